/- Forests: what All tells; Len, told. -/
import Derived.Test.YtbipdjmdacelkaaGreatDnAl
set_option linter.unusedVariables false
namespace Go.Dn.W
open Go Go.Dn Go.Proofs

theorem ensL_get {es : List En} {i : Nat} {e : En} (h : es[i]? = some e) : ∀ j v, (encells e)[j]? = some v → (ensL es)[i * 4 + j]? = some v := by
  induction es generalizing i with
  | nil => simp at h
  | cons f es ih =>
    intro j v hv
    unfold ensL
    rw [List.map_cons, List.flatten_cons]
    have hf : (encells f).length = 4 := rfl
    have hj : j < 4 := (List.getElem?_eq_some_iff.1 hv).1
    match i, h with
    | 0, h => cases h; rw [Nat.zero_mul, Nat.zero_add, List.getElem?_append_left (by omega)]; exact hv
    | i + 1, h =>
      rw [List.getElem?_append_right (by omega), hf, show (i + 1) * 4 + j - 4 = i * 4 + j by omega]
      exact ih (by simpa using h) j v hv
structure ElsE (h : Mem) (s : Sl) (es : List En) : Prop where
  len : s.len = es.length
  at_ : ∀ (i : Nat) (e : En), es[i]? = some e → ∃ a, s.a = some a ∧ Cells h (a.add (i * 4)) (encells e)
theorem Owns.elsE {h : Mem} {B : Nat} {s : Sl} {es : List En} (o : Owns h B ty_api_Entry 4 s (ensL es)) : ElsE h s es := by
  have hl : s.len = es.length := by have := o.1; rw [ensL_len] at this; omega
  refine ⟨hl, fun i e he => ?_⟩
  obtain ⟨a, ha⟩ := Owns.some o (by have := (List.getElem?_eq_some_iff.1 he).1; omega)
  refine ⟨a, ha, fun j v hv => ?_⟩
  rw [add_add']
  exact Owns.cells o ha _ v (ensL_get he j v hv)
theorem ElsE.get {h : Mem} {s : Sl} {es : List En} (x : ElsE h s es) {i : Nat} {e : En} (he : es[i]? = some e) {K : Addr → Prop} (hk : ∀ a, s.a = some a → Cells h (a.add (i * 4)) (encells e) → K a) : Idx s.a s.len (i : Int) K := by
  obtain ⟨a, ha, hc⟩ := x.at_ i e he
  exact Idx.mk ha (by rw [x.len]; exact (List.getElem?_eq_some_iff.1 he).1) (hk a ha hc)
def enArgs (l : List En) (i : Nat) : List Value := match l[i]? with | some e => [.string e.1, .agg #[.int .u64 (e.2.ser : Int), .int .i64 (e.2.pos : Int), .int .i64 (e.2.len : Int)]] | none => []
section
variable {h : Mem} {ka kf : Nat} {A : Ar}
theorem ct_All_2 {k1 : Nat} {s : Sl} {l : List En} {y : Value} {J : Nat → Mem → Prop} {Q : Mem → Prop} (hl : l.length ≤ 2000000) (j0 : J 0 h) (hi : ∀ i h, J i h → h[k1]? = some (.cells #[sval s] ty_sl_api_Entry (0, 0)) ∧ ElsE h s l) (jE : ∀ i h h', J i h → Ext h.size h h' → J i h')
    (call : ∀ i h, i < l.length → J i h → CallV PG y (enArgs l i) (.one (.leaf .bool)) h fun b h' => b = true ∧ J (i + 1) h') (q : ∀ h', J l.length h' → Q h') : CallF PG fn_btree_Forest_All_2 [y, .pointer (some ⟨k1, 0, none⟩)] (.tup []) h Q := by
  refine call_btree_Forest_All_2 ?_
  show Ld _ _ _ _ _ _
  obtain ⟨r, x⟩ := hi _ _ j0
  have hlen := x.len
  refine Ld.ens (row_cell r rfl) ⟨fun n h' => ∃ i : Nat, n = (i : Int) ∧ i ≤ l.length ∧ J i h', fun n _ => (l.length - n).toNat, ⟨0, rfl, Nat.zero_le _, j0⟩, ?_⟩
  rintro _ _ h7 ⟨i, rfl, hil, j⟩
  obtain ⟨r7, x7⟩ := hi _ _ j
  refine Br.mk (fun hlt => ?_) fun hge => ?_
  · have hlt : i < l.length := by simp at hlt; omega
    obtain ⟨e, he⟩ : ∃ e, l[i]? = some e := ⟨_, List.getElem?_eq_getElem hlt⟩
    refine x7.get he fun a ha hc => Ld.en hc (New.go fun h14 _ x14 z14 r14 => ?_)
    refine St.all und_en rfl (vs := encells e) sz_en one_en r14 rfl fun h15 u15 r15 => ?_
    refine Ld.str (row_cell r15 rfl) (Ld.ref (en_ref (Cells.whole r15)) ?_)
    have c := call i h15 hlt (jE _ _ _ j (x14.trans (u15.ext (Nat.le_refl _))))
    unfold enArgs at c
    rw [he] at c
    refine CallV.yes c fun h21 j21 => Br.f rfl ?_
    rw [wrap_succ (by omega)]
    exact ⟨⟨i + 1, rfl, hlt, j21⟩, meas hlt (by decide)⟩
  · have hge : i = l.length := by simp at hge; omega
    subst hge
    exact q h7 j
theorem range_ents {k1 B : Nat} {s : Sl} {l : List En} {body : ByteArray → Int → Int → Int → RB} {Kn Ke Kr : Mem → Prop} {eid : Nat} (hl : l.length ≤ 2000000) (I : Nat → Mem → Prop)
    (start : ∀ h1, Ext h.size h h1 → h1.size = h.size + 2 → h1[h.size]? = some (.deferred (some [])) → I 0 h1) (upd : ∀ i h1 h2, I i h1 → Upd (h.size + 1) h1 h2 → I i h2) (ext : ∀ i h1 h2, I i h1 → Ext h1.size h1 h2 → I i h2)
    (own : ∀ i h', I i h' → h'[k1]? = some (.cells #[sval s] ty_sl_api_Entry (0, 0)) ∧ Owns h' B ty_api_Entry 4 s (ensL l))
    (step : ∀ i e h2 (o o' : Obj) (begin : Mem → (Mem → Prop) → Prop) (next ex re : Mem → Prop), l[i]? = some e → I i h2 → h2[h.size + 1]? = some o →
      (∀ h3 F, h3[h.size + 1]? = some o → (∀ h', Upd (h.size + 1) h3 h' → h'[h.size + 1]? = some o' → F h') → begin h3 F) → (∀ h4, h4[h.size + 1]? = some o' → I (i + 1) h4 → next h4) → body e.1 (e.2.ser : Int) (e.2.pos : Int) (e.2.len : Int) h2 begin next ex re)
    (fin : ∀ h4, I l.length h4 → Kn h4) : RangeFn PG (.func (.func fn_btree_Forest_All_2) #[] #[.pointer (some ⟨k1, 0, none⟩)]) h [.leaf .str, .agg [.int .u64, .int .i64, .int .i64]] body Kn Ke Kr eid := by
  refine range_full l.length (enArgs l) (fun i => match l[i]? with | some e => body e.1 (e.2.ser : Int) (e.2.pos : Int) (e.2.len : Int) | none => fun _ _ _ _ _ => False) I (fun lb r Y i hi h2 pd R hl b => ?_) start upd ext ?_ ?_ fin
  · obtain ⟨e, he⟩ : ∃ p, l[i]? = some p := ⟨_, List.getElem?_eq_getElem hi⟩
    unfold enArgs
    rw [he] at b ⊢
    exact Y h2 pd R hl _ _ _ _ b
  · intro J h1 y j0 jI jE call
    exact enterV_bound (first := []) (bound := [.pointer (some ⟨k1, 0, none⟩)]) (by kernel_rfl) (ct_All_2 hl j0 (fun i h' j => ⟨(own i h' (jI _ _ j)).1, Owns.elsE (own i h' (jI _ _ j)).2⟩) jE call fun h' j => j)
  · intro i h2 o o' begin next ex re hi inv ho hbg hnx
    obtain ⟨e, he⟩ : ∃ p, l[i]? = some p := ⟨_, List.getElem?_eq_getElem hi⟩
    rw [he]
    exact step i e h2 o o' begin next ex re he inv ho hbg hnx
theorem set_upd {h : Mem} {k : Nat} {o : Obj} : Upd k h (Array.setIfInBounds h k o) := ⟨by simp, fun j hj => by rw [Array.getElem?_setIfInBounds_ne (fun e => hj e.symm)]⟩
/-- what all rounds of a loop that turns one block alone have -/
structure Inv (h0 : Mem) (kc : Nat) (h' : Mem) : Prop where
  size : h0.size + 2 ≤ h'.size
  keep : ∀ j, j < h0.size → j ≠ kc → h'[j]? = h0[j]?
  mark : h'[h0.size]? = some (.deferred (some []))
theorem Inv.start {h0 h1 : Mem} {kc : Nat} (x : Ext h0.size h0 h1) (z : h1.size = h0.size + 2) (d : h1[h0.size]? = some (.deferred (some []))) : Inv h0 kc h1 := ⟨by omega, fun j hj _ => x.block j hj, d⟩
theorem Inv.upd {h0 h1 h2 : Mem} {kc : Nat} (i : Inv h0 kc h1) (u : Upd (h0.size + 1) h1 h2) : Inv h0 kc h2 := ⟨by rw [u.size]; exact i.size, fun j hj hn => (u.block j (by omega)).trans (i.keep j hj hn), (u.block _ (by omega)).trans i.mark⟩
theorem Inv.ext {h0 h1 h2 : Mem} {kc : Nat} (i : Inv h0 kc h1) (e : Ext h1.size h1 h2) : Inv h0 kc h2 := ⟨Nat.le_trans i.size e.size, fun j hj hn => (e.block j (by have := i.size; omega)).trans (i.keep j hj hn), (e.block _ (by have := i.size; omega)).trans i.mark⟩
theorem Inv.own {h0 h1 h2 : Mem} {kc : Nat} (i : Inv h0 kc h1) (u : Upd kc h1 h2) (hk : kc < h0.size) : Inv h0 kc h2 := ⟨by rw [u.size]; exact i.size, fun j hj hn => (u.block j hn).trans (i.keep j hj hn), (u.block _ (by omega)).trans i.mark⟩
theorem Inv.row {h0 h' : Mem} {kc k : Nat} {c : Array Value} {e : TypeId} {fz : Nat × Nat} (i : Inv h0 kc h') (r : h0[k]? = some (.cells c e fz)) (hn : k ≠ kc) : h'[k]? = some (.cells c e fz) := (i.keep k (row_lt r) hn).trans r
theorem Inv.owns {h0 h' : Mem} {kc B size : Nat} {e e' : TypeId} {s : Sl} {xs : List Value} {c : Array Value} {fz : Nat × Nat} (i : Inv h0 kc h') (o : Owns h0 B e size s xs) (hk : h0[kc]? = some (.cells c e' fz)) (hne : e' ≠ e) : Owns h' B e size s xs :=
  o.kept fun a ha => i.keep _ (o.blk ha).2.1 (o.neT hk hne a ha)
/-- the mark is taken away -/
theorem Inv.out {h0 h' : Mem} {kc n : Nat} (i : Inv h0 kc h') (hn : n ≤ h0.size) (hk : n ≤ kc) : Ext n h0 (Array.setIfInBounds h' h0.size (Obj.deferred none)) := by
  have u := set_upd (h := h') (k := h0.size) (o := .deferred none)
  exact ⟨by rw [u.size]; have := i.size; omega, fun j hj => (u.block j (by omega)).trans (i.keep j (by omega) (by omega))⟩
theorem ct_Len {L : Nat → List En} {root : Nat} {Q : Int → Mem → Prop} (f : FoIs h kf ka A L) (hroot : root < 16) (hl : (L root).length ≤ 1000000) (q : ∀ h', Ext h.size h h' → Q ((L root).length : Int) h') : CallF PG fn_btree_Forest_Len [.pointer (some ⟨kf, 0, none⟩), .int .i64 (root : Int)] (.one (.leaf (.int .i64))) h Q := by
  refine call_btree_Forest_Len (New.go fun h2 _ x2 z2 r2 => St.all ⟨_, und_i⟩ rfl (vs := [icell 0]) (by kernel_rfl) (by simp [icell, Value.oneCell']) r2 rfl fun h3 u3 r3 => ?_)
  have x3 : Ext h.size h h3 := x2.trans (u3.ext (Nat.le_refl _))
  refine ct_All (f.ext x3) hroot hl fun k1 s h5 x5 hk1 r1 o1 => ?_
  have r35 := x5.row' r3
  have hlt := row_lt r35
  have z3 := x3.size
  have z5 := x5.size
  have hz := u3.size
  refine range_ents (by omega) (fun i h' => Inv h5 h.size h' ∧ h'[h.size]? = some (.cells #[icell i] ty_int (0, 0))) (fun h1 x z d => ⟨.start x z d, x.row' r35⟩) (fun i h1 h2 x u => ⟨x.1.upd u, u.row x.2 (by omega)⟩) (fun i h1 h2 x e => ⟨x.1.ext e, e.row' x.2⟩)
    (fun i h' x => ⟨x.1.row r1 (by omega), x.1.owns o1 r35 (by decide)⟩) (fun i e h2 o o' begin next ex re he x ho hbg hnx => ?_) fun h4 x => ?_
  · have hi := (List.getElem?_eq_some_iff.1 he).1
    refine hbg h2 _ ho fun h15 u15 ho15 => ?_
    refine Ld.i (row_cell (u15.row x.2 (by omega)) rfl) ?_
    rw [wrap_succ (by omega)]
    refine St.all ⟨_, und_i⟩ rfl (vs := [icell (i + 1)]) (by kernel_rfl) (by simp [icell, Value.oneCell']) (u15.row x.2 (by omega)) rfl fun h17 u17 r17 => ?_
    exact hnx h17 ((u17.block _ (by omega)).trans ho15) ⟨(x.1.upd u15).own u17 hlt, r17⟩
  · refine Ld.i (row_cell x.2 rfl) ⟨x.1.mark, q _ (x3.trans ((x5.less z3).trans (x.1.out (by omega) (Nat.le_refl _))))⟩
end
end Go.Dn.W
