/- A copy of changes with spare room behind it, and whether it was kept. -/
import Derived.Test.YtemelcaoepaoiaaDnRWt
import Derived.Laws.MakeOwn
import Derived.Test.YtemelcaoepaoiaaDnPArg
set_option linter.unusedVariables false
namespace Go.Dn.W
open Go Go.Dn Go.Proofs

section
variable {h : Mem}
theorem make_own {t e : TypeId} {size bytes c : Nat} {K : Sl → Mem → Prop} (ht : PG.underlying t = some (.slice e)) (hi : infoOk PG e size bytes = true) (hb : bytes * c ≤ 281474976710656) (h63 : c ≤ 281474976710656)
    (hk : ∀ h', Owns h' h.size e size ⟨some ⟨h.size, 0, none⟩, 0, c⟩ [] → Ext h.size h h' → K ⟨some ⟨h.size, 0, none⟩, 0, c⟩ h') : PrimT PG (Instr.makeSlice t (.int .i64 0) (.int .i64 (c : Int))) (.one (.leaf .sl)) h K := by
  obtain ⟨i, z, hi', hz, hsz, hby, hzs, hpos⟩ := infoOk_spec hi
  intro w hw
  subst hw
  obtain ⟨w', hr, ho, hg⟩ := run_make_own (P := PG) w w.heap.size t e i z size ht hi' hz hsz .i64 .i64 c (by rw [hby]; exact hb) (by simp only [maxLen]; omega) (Nat.le_refl _)
  exact ⟨_, w', hr, ⟨hg.os, hg.tape, hg.output⟩, [_], rfl, ⟨some ⟨w.heap.size, 0, none⟩, 0, c⟩, .sl _ _ _, hk _ ho ⟨hg.size, fun k hk => hg.block k hk (by simp)⟩⟩

/-- an element is stored behind the last one -/
theorem OwnL.storeNext {B' B g n cap : Nat} {l : List Cg} {f : Cg} {K : Mem → Prop} (x : OwnL ty_api_Change 5 ECg h B' B ⟨some ⟨g, 0, none⟩, n, cap⟩ l) (hc : n < cap)
    (hk : ∀ h', OwnL ty_api_Change 5 ECg h' B' B ⟨some ⟨g, 0, none⟩, n + 1, cap⟩ (l ++ [f]) → Upd g h h' → Ext B' h h' → K h') :
    St PG ty_api_Change ((⟨g, 0, none⟩ : Addr).add (n * 5)) (.agg #[.string f.key, .int .u64 f.ser, .int .i64 f.pos, .int .i64 f.len, .bool f.del]) h K := by
  obtain ⟨css, ow, hh⟩ := x
  obtain ⟨t, hd⟩ := und_chg
  rcases ow.2 with ⟨hn, _⟩ | ⟨g', cap', cur, hv', hB, hg, hc', hm, hcs, htk⟩
  · cases hn
  · simp only [Value.slice.injEq, Option.some.injEq, Addr.mk.injEq, and_true, true_and] at hv'
    obtain ⟨rfl, rfl⟩ := hv'
    have hg : h[g]? = some (.cells cur ty_api_Change (0, 0)) := hg
    rw [add_off, Nat.zero_add]
    refine St.row hd (vs := cgcells f) rfl sz_chg (one_cgcells f) hg (by rw [hcs]; show n * 5 + 5 ≤ _; omega) fun h' u r => ?_
    refine hk h' ⟨css ++ [cgcells f], ⟨?_, .inr ⟨g, cap, _, rfl, hB, r, hc, hm, ?_, ?_⟩⟩, ⟨by simp [hh.len], fun cs hcs' => ?_, fun cs hcs' => ?_, fun i cs c hi hcc => ?_⟩⟩ u (u.ext hB)
    · have := ow.1
      rw [List.flatten_append, List.length_append, this]
      simp [cgcells]; omega
    · simp only [List.size_toArray, List.length_append, List.length_take, List.length_drop, Array.length_toList]
      show min (n * 5) cur.size + 5 + (cur.size - (n * 5 + 5)) = _
      omega
    · show ((cur.toList.take (n * 5) ++ cgcells f ++ cur.toList.drop (n * 5 + 5)).take ((n + 1) * 5)) = _
      have htk : cur.toList.take (n * 5) = css.flatten := htk
      have e1 : (css.flatten ++ cgcells f).length = (n + 1) * 5 := by
        rw [List.length_append, ow.1]; show n * 5 + 5 = _; omega
      rw [htk, ← e1, List.take_left, List.flatten_append]
      simp
    · rcases List.mem_append.1 hcs' with h1 | h1
      · exact hh.width cs h1
      · simp only [List.mem_cons, List.not_mem_nil, or_false] at h1; subst h1; rfl
    · rcases List.mem_append.1 hcs' with h1 | h1
      · exact hh.one cs h1
      · simp only [List.mem_cons, List.not_mem_nil, or_false] at h1; subst h1; exact one_cgcells f
    · exact (hh.snoc (cs := cgcells f) (y := f) rfl (one_cgcells f) (show ECg h B (cgcells f) f from rfl)).is i cs c hi hcc

theorem OwnL.prefixC {B' B n : Nat} {a : Option Addr} {m cap : Nat} {l r : List Cg} (x : OwnL ty_api_Change 5 ECg h B' B ⟨a, m, cap⟩ (l ++ r)) (hn : n = l.length) : OwnL ty_api_Change 5 ECg h B' B ⟨a, n, cap⟩ l := by
  have hlen := x.len (by decide)
  obtain ⟨css, ow, hh⟩ := x
  have hl : l.length ≤ m := by rw [show m = (l ++ r).length from hlen, List.length_append]; omega
  have := Owns.prefix ow (n := l.length) hl
  rw [flatten_take _ hh.width] at this
  subst hn
  refine ⟨css.take l.length, this, ?_⟩
  have h2 := hh.take l.length
  rwa [List.take_left] at h2

def fill3 (f : Cg) : List Cg := [f, f, f]
theorem take_fill (f : Cg) {j : Nat} (hj : j < 3) : (fill3 f).take (j + 1) = (fill3 f).take j ++ [f] := by
  match j, hj with
  | 0, _ => rfl
  | 1, _ => rfl
  | 2, _ => rfl
theorem get_fill (f : Cg) {j : Nat} (hj : j < 3) : (fill3 f)[j]? = some f := by
  match j, hj with
  | 0, _ => rfl
  | 1, _ => rfl
  | 2, _ => rfl

theorem ChsAt.css {s : Sl} {l : List Cg} (a : ChsAt h s l) (B : Nat) : ∃ css, LHeads 5 ECg h B css l ∧ ∀ p, s.a = some p → Cells h p css.flatten := by
  obtain ⟨css, hl, hr⟩ := list_of (n := l.length) (R := fun i (cs : List Value) => ∃ (c : Cg) (p : Addr), l[i]? = some c ∧ cs = cgcells c ∧ s.a = some p ∧ Cells h (p.add (i * 5)) cs) fun i hi => by
    obtain ⟨c, hc⟩ : ∃ c, l[i]? = some c := ⟨_, List.getElem?_eq_getElem hi⟩
    obtain ⟨p, hp, hcc⟩ := a.at_ i c hc
    exact ⟨_, c, p, hc, rfl, hp, hcc⟩
  have hw : ∀ cs ∈ css, cs.length = 5 := fun cs hcs => by
    obtain ⟨i, hi⟩ := List.getElem?_of_mem hcs
    obtain ⟨c, p, _, rfl, _⟩ := hr i cs hi
    rfl
  refine ⟨css, ⟨hl, hw, fun cs hcs => ?_, fun i cs y hi hy => ?_⟩, fun p hp => ?_⟩
  · obtain ⟨i, hi⟩ := List.getElem?_of_mem hcs
    obtain ⟨c, p, _, rfl, _⟩ := hr i cs hi
    exact one_cgcells _
  · obtain ⟨c, p, hc, e, _⟩ := hr i cs hi
    rw [hy] at hc; cases hc
    exact e
  · refine cells_flatten (n := 5) (by decide) hw fun i cs hi => ?_
    obtain ⟨c, p', _, _, hp', hcc⟩ := hr i cs hi
    rw [hp] at hp'; cases hp'
    exact hcc

theorem ct_Own {s : Sl} {l : List Cg} {f : Cg} {Q : Sl → Mem → Prop} (a : ChsAt h s l) (hn : s.a = none → s.cap = 0) (hl : (l.length + 3) * 48 ≤ 140737488355328)
    (q : ∀ s' h', Ext h.size h h' → OwnL ty_api_Change 5 ECg h' h.size h.size ⟨s'.a, l.length + 3, s'.cap⟩ (l ++ fill3 f) → s'.len = l.length → s'.cap = l.length + 3 → Q s' h') :
    CallF PG fn_dunnagehelp_Own_api_Change_ [sval s, .agg #[.string f.key, .int .u64 f.ser, .int .i64 f.pos, .int .i64 f.len, .bool f.del]] (.one (.leaf .sl)) h Q := by
  obtain ⟨sa, sl, sc⟩ := s
  obtain rfl : sl = l.length := a.len
  refine call_dunnagehelp_Own_api_Change_ (l := ⟨sa, l.length, sc⟩) (New.go fun h2 _ x2 z2 r2 => ?_)
  have r2 : h2[h.size]? = some (.cells (cgcells f).toArray ty_api_Change (0, 0)) := r2
  rw [show IntKind.i64.wrap ((l.length : Int) + 3) = ((l.length + 3 : Nat) : Int) by rw [i64_eq (by omega) (by omega)]; omega]
  refine make_own und_changes info_chg (by omega) (by omega) fun h4 o4 x4 => ?_
  obtain ⟨css, hh, hcells⟩ := a.css h2.size
  have x04 : Ext h.size h h4 := x2.after x4
  have ow4 : Owns h4 h2.size ty_api_Change 5 ⟨some ⟨h2.size, 0, none⟩, 0, l.length + 3⟩ [] := o4
  have hz : sa = none → l.length = 0 ∧ sc = 0 := fun hna => by
    refine ⟨?_, hn hna⟩
    cases l with
    | nil => rfl
    | cons c l => obtain ⟨p, hp, _⟩ := a.at_ 0 c rfl; exact absurd (hp.symm.trans hna) (by simp)
  have key := fun K : Sl → Mem → Prop => append_room (K := K) (P := PG) (t := ty_sl_api_Change) (ty := ty_sl_api_Change) (v := ⟨sa, l.length, sc⟩) (news := css.flatten) und_changes info_chg ow4 (by rw [flatten_length hh.width, hh.len]) (fun p hp => (hcells p hp).ext x04)
    hz (fun u hu => by obtain ⟨cs, h1, h2⟩ := List.mem_flatten.1 hu; exact hh.one cs h1 u h2) (by show 0 + l.length ≤ l.length + 3; omega) rfl
  refine key _ fun h6 o6 g6 z6 => ?_
  have e0 : (0 + l.length) = l.length := by omega
  have o6' : OwnL ty_api_Change 5 ECg h6 h2.size h2.size ⟨some ⟨h2.size, 0, none⟩, l.length, l.length + 3⟩ l := by
    rw [← e0]
    exact ⟨css, by simpa using o6, ⟨hh.len, hh.width, hh.one, hh.is⟩⟩
  have x26 : Ext h2.size h2 h6 := x4.trans (Owns.grownExt ow4 x4.size g6)
  refine Cut.hi (by show l.length + 3 ≤ l.length + 3; exact Nat.le_refl _) ?_
  rw [cutSl_zero]
  refine ⟨fun n h' => ∃ j : Nat, n = ((l.length + j : Nat) : Int) ∧ j ≤ 3 ∧ OwnL ty_api_Change 5 ECg h' h2.size h2.size ⟨some ⟨h2.size, 0, none⟩, l.length + j, l.length + 3⟩ (l ++ (fill3 f).take j) ∧ Ext h2.size h2 h', fun n _ => l.length + 3 - n.toNat, ⟨0, rfl, by omega, by simpa using o6', x26⟩, ?_⟩
  rintro _ n h12 ⟨j, rfl, hj, o12, x12⟩
  have r12 := (x12.block h.size (by omega)).trans r2
  refine Br.mk (fun e1 => ?_) fun e1 => ?_
  · have e1 : ((l.length + j : Nat) : Int) < ((l.length + 3 : Nat) : Int) := by simpa using e1
    refine Ld.cg (Cells.whole r12) (Idx.mk rfl (show l.length + j < l.length + 3 by omega) ?_)
    rw [nat_mul]
    refine o12.storeNext (by omega) fun h19 o19 u19 x19 => ?_
    rw [wrap_succ (by omega)]
    refine ⟨⟨j + 1, rfl, by omega, ?_, x12.trans x19⟩, by simp only [Int.toNat_natCast]; omega⟩
    rw [take_fill f (by omega), ← List.append_assoc]; exact o19
  · have e1 : ¬ ((l.length + j : Nat) : Int) < ((l.length + 3 : Nat) : Int) := by simpa using e1
    have : j = 3 := by omega
    subst this
    refine q _ _ (x2.after x12) (OwnL.base o12 x2.size fun _ _ h => h) ?_ rfl
    exact e0

theorem ct_plain_chg {p c : Cg} {Q : Bool → Mem → Prop} (q : ∀ h', Ext h.size h h' → Q (decide (p.key = c.key ∧ p.ser = c.ser ∧ p.pos = c.pos ∧ p.len = c.len ∧ p.del = c.del)) h') :
    CallF PG fn_dunnagehelp_Plain_api_Change_1 [.agg #[.string p.key, .int .u64 p.ser, .int .i64 p.pos, .int .i64 p.len, .bool p.del], .agg #[.string c.key, .int .u64 c.ser, .int .i64 c.pos, .int .i64 c.len, .bool c.del]] (.one (.leaf .bool)) h Q := by
  refine call_dunnagehelp_Plain_api_Change_1 (New.go fun h1 _ x1 z1 r1 => New.go fun h2 _ x2 z2 r2 => ?_)
  have r1 : h1[h.size]? = some (.cells (cgcells p).toArray ty_api_Change (0, 0)) := r1
  have r2 : h2[h1.size]? = some (.cells (cgcells c).toArray ty_api_Change (0, 0)) := r2
  have r1' := (x2.block h.size (by omega)).trans r1
  refine Ld.cg (Cells.whole r1') (Ld.cg (Cells.whole r2) (EqP.chg (.inl rfl) ?_))
  rw [if_pos rfl]
  exact q _ (x1.after x2)

theorem ct_Kept {s t : Sl} {l : List Cg} {f : Cg} {Q : Bool → Mem → Prop} (a : ChsAt h s l) (b : ChsAt h t l) (full : ChsAt h ⟨s.a, l.length + 3, s.cap⟩ (l ++ fill3 f)) (hc : s.cap = l.length + 3) (hl : l.length ≤ 140737488355320)
    (q : ∀ h', Ext h.size h h' → Q true h') : CallF PG fn_dunnagehelp_Kept_api_Change_ [sval s, sval t, .agg #[.string f.key, .int .u64 f.ser, .int .i64 f.pos, .int .i64 f.len, .bool f.del]] (.one (.leaf .bool)) h Q := by
  have la := a.len
  have lb := b.len
  refine call_dunnagehelp_Kept_api_Change_ (New.go fun h2 _ x2 z2 r2 => ?_)
  have r2 : h2[h.size]? = some (.cells (cgcells f).toArray ty_api_Change (0, 0)) := r2
  refine call_dunnagehelp_Plain_api_Change_ (call_dunnagehelp_Same_api_Change_ (Br.f (by rw [la, lb]; simp) ?_))
  refine ⟨fun n h' => ∃ i : Nat, n = (i : Int) ∧ i ≤ l.length ∧ Ext h2.size h2 h', fun n _ => l.length - n.toNat, ⟨0, rfl, Nat.zero_le _, Ext.refl _ _⟩, ?_⟩
  rintro _ n h4 ⟨i, rfl, hi, x4⟩
  refine Br.mk (fun e1 => ?_) fun _ => Br.f rfl ?_
  · simp only [decide_eq_true_eq] at e1
    rw [la] at e1
    obtain ⟨c, hcc⟩ : ∃ c, l[i]? = some c := ⟨_, List.getElem?_eq_getElem (by omega)⟩
    obtain ⟨ad, ha, h1⟩ := (a.ext (x2.after x4)).at_ i c hcc
    obtain ⟨bd, hb, h2'⟩ := (b.ext (x2.after x4)).at_ i c hcc
    refine Idx.mk ha (by omega) ?_
    rw [nat_mul]
    refine Ld.cg h1 (Idx.mk hb (by omega) ?_)
    refine Ld.cg h2' (callV_fn (ct_plain_chg fun h19 x19 => Br.f (by simp) ?_))
    rw [wrap_succ (by omega)]
    exact ⟨⟨i + 1, rfl, by omega, x4.after x19⟩, by simp only [Int.toNat_natCast]; omega⟩
  · rw [lb, show IntKind.i64.wrap ((l.length : Int) + 3) = ((l.length + 3 : Nat) : Int) by rw [i64_eq (by omega) (by omega)]; omega]
    refine Br.f (by rw [hc]; simp) (Cut.hi (by omega) ?_)
    rw [cutSl_zero]
    refine ⟨fun n h' => ∃ j : Nat, n = ((l.length + j : Nat) : Int) ∧ j ≤ 3 ∧ h' = h4, fun n _ => l.length + 3 - n.toNat, ⟨0, rfl, by omega, rfl⟩, ?_⟩
    rintro _ n h10 ⟨j, rfl, hj, rfl⟩
    have r10 := (x4.block h.size (by omega)).trans r2
    refine Br.mk (fun e1 => ?_) fun _ => q _ (x2.after x4)
    have e1 : ((l.length + j : Nat) : Int) < ((l.length + 3 : Nat) : Int) := by simpa using e1
    obtain ⟨ad, ha, h1⟩ := (full.ext (x2.after x4)).at_ (l.length + j) f (by rw [List.getElem?_append_right (by omega), show l.length + j - l.length = j by omega]; exact get_fill f (by omega))
    refine Idx.mk ha (show l.length + j < l.length + 3 by omega) ?_
    rw [nat_mul]
    refine Ld.cg h1 (Ld.cg (Cells.whole r10) (EqP.chg (.inr rfl) ?_))
    rw [if_neg (by decide)]
    refine Br.f (by simp) ?_
    rw [wrap_succ (by omega)]
    exact ⟨⟨j + 1, rfl, by omega, rfl⟩, by simp only [Int.toNat_natCast]; omega⟩
end
end Go.Dn.W
