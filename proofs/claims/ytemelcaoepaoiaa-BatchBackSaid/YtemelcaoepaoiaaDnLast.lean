/- batch.Last tells the last operation of each key. -/
import Derived.Test.YtemelcaoepaoiaaDnSrt
import Derived.Test.YtemelcaoepaoiaaDnLastP
set_option linter.unusedVariables false
namespace Go.Dn.W
open Go Go.Dn Go.Proofs

theorem OwnL.keepAll {α : Type} {E : ElemRel α} {e size : Nat} {h h' : Mem} {B' B : Nat} {s : Sl} {l : List α} (x : OwnL e size E h B' B s l) (hst : Stab E) (k : ∀ (j : Nat) (c : Array Value) (e : TypeId) (fz : Nat × Nat), h[j]? = some (.cells c e fz) → h'[j]? = h[j]?) : OwnL e size E h' B' B s l := by
  obtain ⟨css, o, hh⟩ := x
  exact ⟨css, Owns.kept o (fun a ha => let ⟨_, _, c, hc⟩ := Owns.blk o ha; k _ c _ _ hc), hh.keep hst fun j c hc => k j c _ _ hc⟩

/-- the map tells where the last operations of the first i lie -/
structure MI (l : List Opn) (i : Nat) (m : ByteArray → Option Nat) : Prop where
  at_ : ∀ k, (m k).bind (fun j => l[j]?) = lastOf (l.take i) k
  lt : ∀ k j, m k = some j → j < i
theorem MI.zero (l : List Opn) : MI l 0 fun _ => none := ⟨fun k => by simp [lastOf], fun k j h => by cases h⟩
theorem MI.step {l : List Opn} {i : Nat} {m : ByteArray → Option Nat} (x : MI l i m) {o : Opn} (ho : l[i]? = some o) : MI l (i + 1) fun k => if k = o.key then some i else m k := by
  refine ⟨fun k => ?_, fun k j hj => ?_⟩
  · rw [List.take_add_one, ho, Option.toList_some, lastOf_snoc]
    by_cases e : k = o.key
    · rw [if_pos e, if_pos e.symm]; exact ho
    · rw [if_neg e, if_neg fun e' => e e'.symm]; exact x.at_ k
  · split at hj
    · cases hj; omega
    · have := x.lt k j hj; omega

/-- what has been laid of the map's operations -/
structure Done (l : List Opn) (left : ByteArray → Bool) (d : List Opn) : Prop where
  apart : d.Pairwise fun p q => p.key ≠ q.key
  mem : ∀ o, o ∈ d ↔ lastOf l o.key = some o ∧ left o.key = false
theorem Done.step {l d : List Opn} {left : ByteArray → Bool} (x : Done l left d) {o : Opn} (ho : lastOf l o.key = some o) (hl : left o.key = true) : Done l (fun k => left k && !decide (k = o.key)) (d ++ [o]) := by
  refine ⟨List.pairwise_append.2 ⟨x.apart, List.pairwise_singleton _ _, fun p hp q hq => ?_⟩, fun p => ?_⟩
  · simp only [List.mem_cons, List.not_mem_nil, or_false] at hq
    subst hq
    intro e
    have := ((x.mem p).1 hp).2
    rw [e, hl] at this; cases this
  · simp only [List.mem_append, List.mem_cons, List.not_mem_nil, or_false, x.mem, Bool.and_eq_false_iff, Bool.not_eq_false', decide_eq_true_eq]
    constructor
    · rintro (⟨h1, h2⟩ | rfl)
      · exact ⟨h1, .inl h2⟩
      · exact ⟨ho, .inr rfl⟩
    · rintro ⟨h1, h2 | h2⟩
      · exact .inl ⟨h1, h2⟩
      · rw [h2, ho] at h1; cases h1; exact .inr rfl
theorem Done.last {l d l' : List Opn} {left : ByteArray → Bool} (x : Done l left d) (h0 : ∀ k, left k = false) (hp : l'.Perm d) (hs : ∀ (i j : Nat) (p q : Opn), i < j → l'[i]? = some p → l'[j]? = some q → sLt q.key p.key = false) : l' = pLast l := by
  refine IsLast.unique (ops := l) ⟨?_, fun o => ?_⟩ (pLast_is l)
  · have ap := (hp.pairwise_iff (R := fun p q : Opn => p.key ≠ q.key) fun h => Ne.symm h).2 x.apart
    unfold RisesO
    rw [List.pairwise_iff_getElem] at ap ⊢
    intro i j hi hj hij
    exact sLt_of_not (hs i j _ _ hij (List.getElem?_eq_getElem hi) (List.getElem?_eq_getElem hj)) fun e => ap i j hi hj hij e.symm
  · rw [hp.mem_iff, x.mem]; exact ⟨fun h => h.1, fun h => ⟨h, h0 _⟩⟩

section
variable {h : Mem}

theorem ct_batch_Last {s : Sl} {l : List Opn} {Q : Sl → Mem → Prop} (a : OpsAt h s l) (hv : ShortO l) (hk : ∀ (i : Nat) (o : Opn), l[i]? = some o → o.key.size ≤ 140737488355328) (hl : l.length * 48 ≤ 140737488355328)
    (q : ∀ s' h', Ext h.size h h' → OwnO h' h.size s' (pLast l) → Q s' h') : CallF PG fn_batch_Last [sval s] (.one (.leaf .sl)) h Q := by
  refine call_batch_Last (MapIs.map fun h2 m2 x2 => ?_)
  refine ⟨fun n h' => ∃ (i : Nat) (m : ByteArray → Option Nat), n = (i : Int) ∧ i ≤ l.length ∧ MapIs h' h.size i m ∧ Ext h.size h h' ∧ MI l i m, fun n _ => l.length - n.toNat, ⟨0, _, rfl, Nat.zero_le _, m2, x2, MI.zero l⟩, ?_⟩
  rintro _ n h7 ⟨i, m, rfl, hi, mp, x7, mi⟩
  refine Br.mk (fun e => ?_) fun e => ?_
  · simp only [decide_eq_true_eq] at e
    rw [a.len] at e
    obtain ⟨o, ho⟩ : ∃ o, l[i]? = some o := ⟨_, List.getElem?_eq_getElem (by omega)⟩
    obtain ⟨ad, ha, v, hc, hb⟩ := (a.ext x7).at_ i o ho
    refine Idx.mk ha (by rw [a.len]; omega) ?_
    rw [nat_mul]
    refine Ld.op hc (New.go fun h13 _ x13 z13 r13 => St.op (v0 := ⟨none, 0, 0⟩) r13 fun h14 u14 r14 => Ld.key (row_cell r14 rfl) ?_)
    have xx : Ext h7.size h7 h14 := x13.trans (u14.ext (Nat.le_refl _))
    have mp' := mp.keep (xx.block _ mp.lt)
    refine mp'.update (by omega) (hk i o ho) (by omega) fun h16 mp16 x16 _ => ?_
    rw [wrap_succ (by omega)]
    exact ⟨⟨i + 1, _, rfl, by omega, mp16, x7.trans ((xx.less x7.size).trans x16), mi.step ho⟩, by simp only [Int.toNat_natCast]; omega⟩
  · simp only [decide_eq_false_iff_not] at e
    rw [a.len] at e
    have hil : i = l.length := by omega
    subst hil
    have hat : ∀ k, (m k).bind (fun j => l[j]?) = lastOf l k := fun k => by have := mi.at_ k; rwa [List.take_length] at this
    refine mp.range fun h18 c18 hc18 rg x18 z18 => ?_
    refine ⟨fun t h' => ∃ (left : ByteArray → Bool) (cnt : Nat) (d : List Opn), RangeIs h' h.size h7.size m left cnt ∧ Ext h.size h h' ∧ OwnO h' h.size t d ∧ Done l left d ∧ d.length + cnt ≤ l.length, fun _ h' => (wOf h').rangeLeft h.size h7.size,
      ⟨_, c18, [], rg, x7.trans (x18.less x7.size), OwnL.nil _ _ _ _ _ _, ⟨List.Pairwise.nil, fun o => ?_⟩, by simpa using hc18⟩, ?_⟩
    · simp only [List.not_mem_nil, false_iff, not_and]
      intro h1 h2
      rw [← hat] at h1
      cases hm : m o.key with
      | none => rw [hm] at h1; cases h1
      | some j => rw [hm] at h2; cases h2
    rintro _ t h23 ⟨left, cnt, d, rg23, x23, od, dn, hlen⟩
    refine rg23.next (fun h0 rest => Br.f rfl (ct_SortOps od (by omega) x23.size fun h47 l' hp hs o47 x47 => ?_)) fun k i rest h26 cnt' hlk hmk hcnt rg26 u26 hent => Br.t rfl (hent _ fun v => ?_)
    · rw [dn.last h0 hp hs] at o47
      exact q _ _ (x23.trans x47) o47
    · have hi := mi.lt k i hmk
      have hlast := hat k
      rw [hmk] at hlast
      obtain ⟨o, ho⟩ : ∃ o, l[i]? = some o := ⟨_, List.getElem?_eq_getElem hi⟩
      have hlast : lastOf l k = some o := by rw [← hlast]; exact ho
      have hok := (lastOf_key hlast).1
      subst hok
      have x26 : Ext h.size h h26 := x23.trans (u26.ext x7.size)
      have od26 := od.keepAll EOp.stab (Upd.keepIter u26 rg23)
      obtain ⟨ad, ha, v, hc, hb⟩ := (a.ext x26).at_ i o ho
      refine Idx.mk ha (by rw [a.len]; omega) ?_
      rw [nat_mul]
      refine Ld.op hc (New.go fun h34 _ x34 z34 r34 => St.op (v0 := ⟨none, 0, 0⟩) r34 fun h35 u35 r35 => ?_)
      have x35 : Ext h26.size h26 h35 := x34.trans (u35.ext (Nat.le_refl _))
      have z35 := u35.size
      rw [show (⟨h26.size, 0, none⟩ : Addr).add 1 = ⟨h26.size, 1, none⟩ from add_off _ _ _]
      refine Ld.bytes (row_cell r35 rfl) (ct_Clone (hb.ext x35) (hv i o ho) fun s37 h38 x38 ow => ?_)
      have r38 : h38[h26.size]? = some (.cells #[.string o.key, sval v, .bool o.del] ty_api_Op (0, 0)) := (x38.block _ (by omega)).trans r35
      refine St.row und_bytes (vs := [sval s37]) rfl sz_bytes (by intro u hu; simp only [List.mem_cons, List.not_mem_nil, or_false] at hu; subst hu; rfl) r38 (show 2 ≤ 3 by decide) fun h39 u39 r39 => ?_
      have r39 : h39[h26.size]? = some (.cells #[.string o.key, sval s37, .bool o.del] ty_api_Op (0, 0)) := r39
      refine Ld.op (Cells.whole r39) (New.go fun h44 _ x44 z44 r44 => ?_)
      have z39 := u39.size
      have z38 := x38.size
      have x39 : Ext h26.size h26 h39 := x35.trans ((x38.less (by omega)).trans (u39.ext (Nat.le_refl _)))
      have xx : Ext h26.size h26 h44 := x39.trans (x44.less x39.size)
      have ow39 : OwnB h39 h35.size ty_uint8 s37 o.val := Owns.kept ow fun a' ha' => u39.block _ (by have := (Owns.blk ow ha').1; omega)
      have ow44 : OwnB h44 h.size ty_uint8 s37 o.val := (Owns.ext ow39 x44).base (by have := x26.size; have := x35.size; omega)
      have od44 := od26.ext EOp.stab xx
      have hB : h.size ≤ h44.size := Nat.le_trans x26.size xx.size
      refine OwnL.push (bytes := 48) und_ops info_op (by decide) EOp.stab hB od44 (Cells.whole (cs := ocells o.key s37 o.del) r44) rfl (one_ocells _ _ _) ⟨s37, rfl, ow44⟩ (by decide) (by decide) (by omega) fun s' h46 o46 x46 g46 _ => ?_
      obtain ⟨css44, os44, _⟩ := od44
      have rg46 := (rg26.ext xx).grown os44 g46
      refine ⟨⟨_, cnt', d ++ [o], rg46, x26.trans ((xx.less x26.size).trans x46), o46, dn.step hlast hlk, ?_⟩, ?_⟩
      · simp only [List.length_append, List.length_cons, List.length_nil]; omega
      · show (wOf h46).rangeLeft _ _ < (wOf h23).rangeLeft _ _
        rw [rg46.measure, rg23.measure]; exact hcnt
end
end Go.Dn.W
