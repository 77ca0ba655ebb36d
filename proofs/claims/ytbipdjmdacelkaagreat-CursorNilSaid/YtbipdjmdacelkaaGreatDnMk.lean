/- The arena: making an object. -/
import Derived.Test.YtbipdjmdacelkaaGreatDnAt
set_option linter.unusedVariables false
namespace Go.Dn.W
open Go Go.Dn Go.Proofs

section
variable {h : Mem} {ka : Nat} {A : Ar} {sw sr : Sl} {mp n : Nat}
theorem ct_Make_1 {Q : Bool → Mem → Prop} (a : ArAt h ka A) {k1 p : Nat} {e1 : TypeId} (r1 : h[k1]? = some (.cells #[.pointer (some ⟨ka, 0, none⟩)] e1 (0, 0))) (hp : p = 0 ∨ A.objs p = true) (hb : p ≤ 4294967295) (q : Q false h) :
    CallF PG fn_arena_Arena_Make_1 [.int .i64 (p : Int), .pointer (some ⟨k1, 0, none⟩)] (.one (.leaf .bool)) h Q := by
  refine call_arena_Arena_Make_1 (Br.mk (fun h0 => ?_) fun _ => q)
  have hp' : A.objs p = true := hp.resolve_left (by rintro rfl; cases h0)
  show Ld _ _ _ _ _ _
  refine Ld.pa (row_cell r1 rfl) ?_
  show Ld _ _ _ _ _ _
  exact ct_is (Q := fun b5 h6 => Q (!b5) h6) a (by omega) (by rw [hp']; exact q)
theorem ct_known {Q : Bool → Mem → Prop} (a : ArAt h ka A) {k1 : Nat} {e1 : TypeId} (r1 : h[k1]? = some (.cells #[.pointer (some ⟨ka, 0, none⟩)] e1 (0, 0))) {s : Sl} {ps : List Nat} (x : Els h s (ps.map icell)) (hp : ∀ p ∈ ps, (p = 0 ∨ A.objs p = true) ∧ p ≤ 4294967295) (hl : ps.length ≤ 255) (q : Q false h) :
    CallF PG fn_slices_ContainsFunc_int_int_ [sval s, .func (.func fn_arena_Arena_Make_1) #[] #[.pointer (some ⟨k1, 0, none⟩)]] (.one (.leaf .bool)) h Q := by
  have hlen := x.len
  rw [List.length_map] at hlen
  refine call_slices_ContainsFunc_int_int_ (s := s) (call_slices_IndexFunc_int_int_ (s := s) ?_)
  refine ⟨fun m h' => ∃ i : Nat, m = (i : Int) ∧ i ≤ ps.length ∧ h' = h, fun m _ => (ps.length - m).toNat, ⟨0, rfl, Nat.zero_le _, rfl⟩, ?_⟩
  rintro _ _ _ ⟨i, rfl, hi, rfl⟩
  refine Br.mk (fun hlt => ?_) fun _ => q
  have hlt : i < ps.length := by simp at hlt; omega
  obtain ⟨p, hpi⟩ : ∃ p, ps[i]? = some p := ⟨_, List.getElem?_eq_getElem hlt⟩
  obtain ⟨h1, h2⟩ := hp p (List.mem_of_getElem? hpi)
  refine x.get (v := icell p) (by rw [List.getElem?_map, hpi]; rfl) fun ad ha hc => ?_
  rw [nat_mul, Nat.mul_one]
  refine Ld.i hc (callV_bound (first := []) (bound := [.pointer (some ⟨k1, 0, none⟩)]) (ct_Make_1 a r1 h1 h2 (Br.f rfl ?_)))
  rw [wrap_succ (by omega)]
  exact ⟨⟨i + 1, rfl, hlt, rfl⟩, by show ((ps.length : Int) - ((i + 1 : Nat) : Int)).toNat < ((ps.length : Int) - (i : Int)).toNat; omega⟩

/-- words behind the words: the slice is stored -/
theorem ArIs.grown {h1 : Mem} (a : ArIs h ka A sw sr mp n) {l : List Nat} {s' : Sl} (hl : A.w.length + l.length ≤ A.most) (hb : ∀ v ∈ l, v ≤ 4294967295) (o : Owns h1 0 ty_uint32 1 s' ((A.w ++ l).map wcell)) (g : Grown sw h h1) (pl : ∀ b, s'.a = some b → sw.a = some b ∨ h.size ≤ b.block) {K : Mem → Prop}
    (hk : ∀ h2, ArIs h2 ka { A with w := A.w ++ l } s' sr mp n → ArX ka h.size h h2 → (∀ (j : Nat) (c : Array Value) (e : TypeId) (fz : Nat × Nat), e ≠ ty_uint32 → e ≠ ty_arena_Arena → h[j]? = some (Obj.cells c e fz) → h2[j]? = h[j]?) → K h2) : St PG ty_sl_uint32 ⟨ka, 0, none⟩ (sval s') h1 K := by
  have rka := g.row a.w a.r (by decide)
  refine St.at1 (o := 0) ⟨_, und_words⟩ (by kernel_rfl) rfl rfl rka (by show 0 < 5; decide) fun h2 u r2 => ?_
  have hnr : ∀ ad, sr.a = some ad → ad.block ≠ ka := a.roots.neT a.r (by decide)
  obtain ⟨es, cl, hm⟩ := a.set.obj
  have hnm : mp ≠ ka := fun e => by rw [e, a.r] at hm; cases hm
  have hnw : ∀ ad, sw.a = some ad → mp ≠ ad.block := fun ad ha e => by
    obtain ⟨_, _, c, hc⟩ := Owns.blk a.w ha
    rw [← e, hm] at hc; cases hc
  have stand : ∀ j, j < h.size → (∀ ad, sw.a = some ad → j ≠ ad.block) → j ≠ ka → h2[j]? = h[j]? := fun j h3 h4 h5 => (u.block j h5).trans (g.block j h3 h4)
  have hroots : ∀ ad, sr.a = some ad → h2[ad.block]? = h[ad.block]? := fun ad ha => stand _ (Owns.blk a.roots ha).2.1 (fun ad' ha' e => by
    obtain ⟨_, _, c, hc⟩ := Owns.blk a.w ha'
    obtain ⟨_, _, c2, hc2⟩ := Owns.blk a.roots ha
    rw [e, hc] at hc2; cases hc2) (hnr ad ha)
  refine hk h2 ⟨r2, o.updT u rka (by decide), a.roots.kept hroots, a.set.keep (stand _ a.set.lt hnw hnm), fun v hv => ?_, a.rb, ?_, ?_⟩ ⟨by rw [u.size]; exact g.size, fun j hj hn => stand j hj (fun ad ha e => hn (e ▸ a.wIn ha)) fun e => hn (.inl e), fun j hj => ?_⟩ fun j c e fz h3 h4 h5 => ?_
  · rcases List.mem_append.1 hv with h3 | h3
    · exact a.wb v h3
    · exact hb v h3
  · exact ⟨by simpa using hl, a.most.2⟩
  · have := a.n; simp; omega
  · rcases hj with rfl | ⟨sw', sr', most', mp', ka', hr', x⟩
    · exact .inr (.inl rfl)
    · have e1 : some (sval s') = some (sval sw') := (row_cell (o := 0) r2 rfl).symm.trans (row_cell hr' rfl)
      have e2 : some (sval sr) = some (sval sr') := (row_cell (o := 2) r2 rfl).symm.trans (row_cell hr' rfl)
      have e3 : some (Value.map (some mp)) = some (Value.map (some mp')) := (row_cell (o := 3) r2 rfl).symm.trans (row_cell hr' rfl)
      simp only [Option.some.injEq, Value.slice.injEq, Value.map.injEq] at e1 e2 e3
      rw [← e1.1, ← e2.1, ← e3] at x
      rcases x with ⟨ad, ha, rfl⟩ | ⟨ad, ha, rfl⟩ | rfl
      · rcases pl ad ha with h3 | h3
        · exact .inr (a.wIn h3)
        · exact .inl h3
      · exact .inr (a.rIn ha)
      · exact .inr a.mIn
  · refine stand j (row_lt h5) (fun ad ha e' => ?_) (ne_row h5 a.r h4)
    obtain ⟨_, _, c', hc⟩ := Owns.blk a.w ha
    rw [← e', h5] at hc
    cases hc
    exact h3 rfl
/-- an object is added -/
def Ar.add (A : Ar) (o : Obj') : Ar := { A with w := A.w ++ (headOf (1 + o.ptrs.length + o.data.length) o.ptrs.length o.kind :: o.ptrs ++ o.data), objs := fun i => decide (i = A.w.length) || A.objs i }
structure Obj'.Ok (A : Ar) (o : Obj') : Prop where
  kind : o.kind < 16
  ptrs : o.ptrs.length ≤ 255
  data : 1 + o.ptrs.length + o.data.length < 1048576
  known : ∀ p ∈ o.ptrs, (p = 0 ∨ A.objs p = true) ∧ p ≤ 4294967295
  words : ∀ v ∈ o.data, v ≤ 4294967295
theorem head_le {s p k : Nat} (hk : k < 16) (hp : p ≤ 255) (hs : s < 1048576) : headOf s p k ≤ 4294967295 := by unfold headOf; omega
set_option maxHeartbeats 1000000 in
theorem ct_Make {o : Obj'} {sp sd : Sl} {Q : Int → Int → Mem → Prop} (a : ArAt h ka A) (ok : o.Ok A) (xp : Els h sp (o.ptrs.map icell)) (xd : Els h sd (o.data.map wcell))
    (hsp : ∀ ad, sp.a = some ad → Safe h ka ad.block) (hsd : ∀ ad, sd.a = some ad → Safe h ka ad.block)
    (q1 : A.most < A.w.length + (1 + o.ptrs.length + o.data.length) → ∀ h', ArAt h' ka A → ArX ka h.size h h' → Q 0 3 h')
    (q2 : A.w.length + (1 + o.ptrs.length + o.data.length) ≤ A.most → ∀ h', ArAt h' ka (A.add o) → ArX ka h.size h h' → Q (A.w.length : Int) 0 h') :
    CallF PG fn_arena_Arena_Make [.pointer (some ⟨ka, 0, none⟩), .int .i64 (o.kind : Int), sval sp, sval sd] (.tup [.leaf (.int .i64), .leaf (.int .i64)]) h Q := by
  obtain ⟨kind, ptrs, data⟩ := o
  have hk := ok.kind
  have hp := ok.ptrs
  have hd := ok.data
  have hkn := ok.known
  have hwd := ok.words
  simp only at *
  have lp := xp.len
  have ld := xd.len
  rw [List.length_map] at lp ld
  refine call_arena_Arena_Make (ptrs := sp) (data := sd) (New.go fun h2 _ x2 z2 r2 => ?_)
  refine Ld.pa (row_cell r2 rfl) (Br.f rfl ?_)
  have esz : IntKind.i64.wrap (IntKind.i64.wrap (1 + (sp.len : Int)) + (sd.len : Int)) = ((1 + ptrs.length + data.length : Nat) : Int) := by
    rw [i64_cast (n := 1 + (sp.len : Int)) (m := 1 + ptrs.length) (by omega) (by omega), i64_add (by omega), ld]
  rw [esz]
  have a2 := a.ext x2
  have hks : Safe h2 ka h.size := a.safe x2 (Nat.le_refl _) (by omega)
  have hx2 : ArX ka h.size h h2 := a.arx x2
  refine ct_Head (ptrs := sp.len) (by omega) hk (by omega) hd ⟨fun b h' => b = false ∧ h' = h2, ?_, Br.f rfl (ct_known a2 r2 (xp.ext x2) (fun p hp => hkn p hp) hp ⟨rfl, rfl⟩)⟩
  rintro _ _ h' ⟨rfl, hh⟩
  rw [hh]
  clear hh
  have a2' := a2
  obtain ⟨sw, sr, mp, n, ar⟩ := a2
  refine Br.f rfl (Ld.pa (row_cell r2 rfl) ?_)
  show Ld _ _ _ _ _ _
  refine Ld.i (row_at ar.r rfl) (Ld.pa (row_cell r2 rfl) ?_)
  show Ld _ _ _ _ _ _
  refine deref_sw ar ?_
  have lw := Owns.len1 ar.w
  rw [List.length_map] at lw
  have hm := ar.most
  rw [i64_cast (n := (A.most : Int) - (sw.len : Int)) (m := A.most - A.w.length) (by omega) (by omega)]
  refine Br.mk (fun hfull => q1 (by simp at hfull; omega) h2 a2' hx2) fun hroom => ?_
  have hroom : A.w.length + (1 + ptrs.length + data.length) ≤ A.most := by simp at hroom; omega
  refine Ld.pa (row_cell r2 rfl) ?_
  show Ld _ _ _ _ _ _
  refine deref_sw ar (Ld.pa (row_cell r2 rfl) (Ld.pa (row_cell r2 rfl) ?_))
  show Ld _ _ _ _ _ _
  generalize hhd : headOf (1 + ptrs.length + data.length) sp.len kind = hd' at *
  rw [lp] at hhd
  have hdle : hd' ≤ 4294967295 := by rw [← hhd]; exact head_le hk hp hd
  refine deref_sw ar (New.go fun h28 _ x28 z28 r28 => ?_)
  have ar28 := ar.ext x28
  have r128 := x28.row' r2
  refine ⟨deref_sw ar28 rfl, Ld.pa (row_cell r128 rfl) rfl, Ld.pa (row_cell r128 rfl) rfl, ?_⟩
  have x28' : ArX ka h2.size h2 h28 := a2'.arx x28
  refine append_at und_words info_w ar28.w (v := ⟨some ⟨h2.size, 0, none⟩, 1, 1⟩) (news := [wcell hd']) rfl (fun _ ha => by cases ha; exact Cells.whole r28) (fun hn => by cases hn) (by simp [wcell, Value.oneCell']) (by show (sw.len + 1) * 4 ≤ _; omega) (by decide) (Nat.zero_le _) fun s32 h33 l33 o33 g33 pl33 => ?_
  have r133 := g33.row ar28.w r128 (by decide)
  refine ⟨Ld.pa (row_cell r133 rfl) rfl, ?_⟩
  show St _ _ _ _ _ _
  refine ar28.grown (l := [hd']) (by simp; omega) (by simpa using hdle) (by rw [List.map_append]; exact o33) g33 pl33 fun h36 ar36 ax36 by36 => ?_
  have r136 : h36[h.size]? = some (.cells #[.pointer (some ⟨ka, 0, none⟩)] ty_ptr_arena_Arena (0, 0)) := (by36 _ _ _ _ (by decide) (by decide) r128).trans r128
  refine ⟨fun m h' => ∃ (i : Nat) (sw' : Sl), m = (i : Int) ∧ i ≤ ptrs.length ∧ ArIs h' ka { A with w := A.w ++ (hd' :: ptrs.take i) } sw' sr mp n ∧ ArX ka h2.size h2 h' ∧ h'[h.size]? = some (.cells #[.pointer (some ⟨ka, 0, none⟩)] ty_ptr_arena_Arena (0, 0)), fun m _ => (ptrs.length - m).toNat,
    ⟨0, s32, rfl, Nat.zero_le _, ar36, x28'.after ax36, r136⟩, ?_⟩
  rintro _ _ hi ⟨i, sw', rfl, hip, ari, axi, ri⟩
  have lwi := Owns.len1 ari.w
  simp only [List.length_map, List.length_append, List.length_cons, List.length_take] at lwi
  have hks2 : h.size ≤ h2.size := by omega
  have keepB : ∀ j, Safe h ka j → hi[j]? = h[j]? := fun j sf => (Safe.keep (Safe.ext a sf x2) (Nat.lt_of_lt_of_le sf.1 hks2) axi).trans (x2.block j sf.1)
  refine Br.mk (fun hlt => ?_) fun hge => ?_
  · have hlt : i < ptrs.length := by simp at hlt; omega
    obtain ⟨p, hpi⟩ : ∃ p, ptrs[i]? = some p := ⟨_, List.getElem?_eq_getElem hlt⟩
    obtain ⟨_, hp2⟩ := hkn p (List.mem_of_getElem? hpi)
    have xpi : Els hi sp (ptrs.map icell) := xp.keep fun ad ha => keepB _ (hsp ad ha)
    refine xpi.get (v := icell p) (by rw [List.getElem?_map, hpi]; rfl) fun ad ha hc => ?_
    rw [nat_mul, Nat.mul_one]
    refine Ld.i hc (Ld.pa (row_cell ri rfl) (Ld.pa (row_cell ri rfl) ?_))
    show Ld _ _ _ _ _ _
    rw [u32_eq hp2]
    refine deref_sw ari (New.go fun h49 _ x49 z49 r49 => ?_)
    have ar49 := ari.ext x49
    have ri49 := x49.row' ri
    refine ⟨deref_sw ar49 rfl, Ld.pa (row_cell ri49 rfl) rfl, Ld.pa (row_cell ri49 rfl) rfl, ?_⟩
    have ax49 : ArX ka hi.size hi h49 := ArAt.arx ⟨_, _, _, _, ari⟩ x49
    refine append_at und_words info_w ar49.w (v := ⟨some ⟨hi.size, 0, none⟩, 1, 1⟩) (news := [wcell p]) rfl (fun _ ha => by cases ha; exact Cells.whole r49) (fun hn => by cases hn) (by simp [wcell, Value.oneCell']) (by show (sw'.len + 1) * 4 ≤ _; omega) (by decide) (Nat.zero_le _) fun s53 h54 l54 o54 g54 pl54 => ?_
    have r154 := g54.row ar49.w ri49 (by decide)
    refine ⟨Ld.pa (row_cell r154 rfl) rfl, ?_⟩
    show St _ _ _ _ _ _
    refine ar49.grown (l := [p]) (by simp only [List.length_append, List.length_cons, List.length_take, List.length_nil]; omega) (by simpa using hp2) (by rw [List.map_append]; exact o54) g54 pl54 fun h57 ar57 ax57 by57 => ?_
    have r157 := (by57 _ _ _ _ (by decide) (by decide) ri49).trans ri49
    rw [wrap_succ (by omega)]
    refine ⟨⟨i + 1, s53, rfl, hlt, ?_, axi.after (ax49.after ax57), r157⟩, by show ((ptrs.length : Int) - ((i + 1 : Nat) : Int)).toNat < ((ptrs.length : Int) - (i : Int)).toNat; omega⟩
    rw [List.take_add_one, hpi]
    simpa using ar57
  · have hge : i = ptrs.length := by simp at hge; omega
    subst hge
    rw [List.take_of_length_le (Nat.le_refl _)] at ari
    refine Ld.pa (row_cell ri rfl) (Ld.pa (row_cell ri rfl) ?_)
    show Ld _ _ _ _ _ _
    refine deref_sw ari ?_
    have xdi : Els hi sd (data.map wcell) := xd.keep fun ad ha => keepB _ (hsd ad ha)
    refine append_at und_words info_w ari.w (v := sd) (by rw [List.length_map, ld, Nat.mul_one]) xdi.cells xdi.nil oneWords (by omega) (by decide) (Nat.zero_le _) fun s62 h63 l63 o63 g63 pl63 => ?_
    have r163 := g63.row ari.w ri (by decide)
    refine ⟨Ld.pa (row_cell r163 rfl) rfl, ?_⟩
    show St _ _ _ _ _ _
    refine ari.grown (l := data) (by simp only [List.length_append, List.length_cons]; omega) hwd (by rw [List.map_append]; exact o63) g63 pl63 fun h66 ar66 ax66 by66 => ?_
    have r166 := (by66 _ _ _ _ (by decide) (by decide) ri).trans ri
    refine Ld.pa (row_cell r166 rfl) ?_
    show Ld _ _ _ _ _ _
    refine Ld.map (row_at ar66.r rfl) (ar66.set.put (by have := ar.n; omega) (by omega) fun h70 set70 u70 => ?_)
    rw [lw]
    obtain ⟨es, cl, hmo⟩ := ar66.set.obj
    have hne : ∀ {j c e fz}, h66[j]? = some (Obj.cells c e fz) → j ≠ mp := fun hj e => by rw [e, hmo] at hj; cases hj
    have hka := u70.row ar66.r (hne ar66.r)
    have ax70 : ArX ka h66.size h66 h70 := ⟨Nat.le_of_eq u70.size.symm, fun j hj hn => u70.block j fun e => hn (e ▸ ar66.mIn), fun j hj => .inr (inAr_of (hka.trans ar66.r.symm) hj)⟩
    have ax : ArX ka h2.size h2 h70 := (axi.after ax66).after ax70
    refine q2 hroom h70 ⟨s62, sr, mp, n + 1, hka, ?_, ar66.roots.updN u70 fun ad ha e => ?_, ?_, ?_, ar66.rb, ?_, ?_⟩ (hx2.after ax)
    · have := ar66.w.updN u70 fun ad ha e => by
        obtain ⟨_, _, c, hc⟩ := Owns.blk ar66.w ha
        rw [e, hmo] at hc; cases hc
      simpa [Ar.add, hhd] using this
    · obtain ⟨_, _, c, hc⟩ := Owns.blk ar66.roots ha
      rw [e, hmo] at hc; cases hc
    · rw [lw] at set70; exact set70
    · intro v hv
      refine ar66.wb v ?_
      simpa [Ar.add, hhd] using hv
    · exact ⟨by simp [Ar.add]; omega, hm.2⟩
    · have := ar.n; simp [Ar.add]; omega
end
end Go.Dn.W
