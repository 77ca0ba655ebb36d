/- The arena: what fill makes of words and roots; a new arena. -/
import Derived.Test.YtbipdjmdacelkaaGreatDnMk
import Derived.Test.YtbipdjmdacelkaaGreatDnRg
set_option linter.unusedVariables false
namespace Go.Dn.W
open Go Go.Dn Go.Proofs

/-- the places and heads of words, from a place on -/
inductive Heads (w : List Nat) : Nat → List (Nat × Nat) → Prop
  | nil : Heads w w.length []
  | cons {at' v : Nat} {l : List (Nat × Nat)} : w[at']? = some v → v / 16 % 256 < v / 4096 → at' + v / 4096 ≤ w.length → Heads w (at' + v / 4096) l → Heads w at' ((at', v) :: l)
theorem Heads.len {w : List Nat} {at' : Nat} {l : List (Nat × Nat)} (x : Heads w at' l) : at' + l.length ≤ w.length := by
  induction x with
  | nil => simp
  | cons h1 h2 h3 h4 ih => simp only [List.length_cons]; omega
theorem Heads.le {w : List Nat} {at' : Nat} {l : List (Nat × Nat)} (x : Heads w at' l) : ∀ p ∈ l, p.1 ≤ w.length := by
  induction x with
  | nil => simp
  | cons h1 h2 h3 h4 ih =>
    intro p hp
    rcases List.mem_cons.1 hp with rfl | hp
    · show _ ≤ _; omega
    · exact ih p hp
def hdArgs (l : List (Nat × Nat)) (i : Nat) : List Value := match l[i]? with | some (a, v) => [.int .i64 (a : Int), .int .u32 (v : Int)] | none => []
section
variable {h : Mem}
/-- the closure of cells.All tells places and heads -/
theorem ct_heads {s : Sl} {w : List Nat} {l : List (Nat × Nat)} {y : Value} {J : Nat → Mem → Prop} {Q : Bool → Mem → Prop} (hw : w.length ≤ 1048576) (hb : ∀ v ∈ w, v ≤ 4294967295) (hd : Heads w 1 l) (j0 : J 0 h) (hi : ∀ i h, J i h → Els h s (w.map wcell))
    (call : ∀ i h, i < l.length → J i h → CallV PG y (hdArgs l i) (.one (.leaf .bool)) h fun b h' => b = true ∧ J (i + 1) h') (q : ∀ h', J l.length h' → Q true h') : CallF PG fn_cells_each [sval s, y] (.one (.leaf .bool)) h Q := by
  refine call_cells_each (w := s) ?_
  refine ⟨fun n h' => ∃ i at' : Nat, n = (at' : Int) ∧ Heads w at' (l.drop i) ∧ i ≤ l.length ∧ J i h', fun n _ => (w.length - n).toNat, ⟨0, 1, rfl, hd, Nat.zero_le _, j0⟩, ?_⟩
  rintro _ _ h5 ⟨i, at', rfl, hh, hil, j⟩
  have x := hi i h5 j
  have hlen := x.len
  rw [List.length_map] at hlen
  have hle := hh.len
  refine Br.mk (fun hlt => ?_) fun hge => ?_
  · have hlt : at' < w.length := by simp at hlt; omega
    have hil2 : i < l.length := by
      rcases Nat.lt_or_ge i l.length with h1 | h1
      · exact h1
      · rw [List.drop_eq_nil_of_le h1] at hh
        cases hh
        omega
    obtain ⟨⟨a, v⟩, hp⟩ : ∃ p, l[i]? = some p := ⟨_, List.getElem?_eq_getElem hil2⟩
    rw [List.drop_eq_getElem_cons hil2] at hh
    have hp' : l[i] = (a, v) := by rw [List.getElem?_eq_getElem hil2] at hp; exact Option.some.inj hp
    rw [hp'] at hh
    cases hh with
    | cons h1 h2 h3 h4 =>
    have hv := hb v (List.mem_of_getElem? h1)
    refine x.get (v := wcell v) (by rw [List.getElem?_map, h1]; rfl) fun ad ha hc => ?_
    rw [nat_mul, Nat.mul_one]
    refine Ld.w hc (ct_Size hv (ct_Ptrs hv (Br.f (by simp; omega) (ct_Size hv ?_))))
    rw [i64_cast (n := (s.len : Int) - (at' : Int)) (m := w.length - at') (by omega) (by omega)]
    refine Br.f (by simp; omega) ?_
    have c := call i h5 hil2 j
    unfold hdArgs at c
    rw [hp] at c
    refine CallV.yes c fun h6 hj => ?_
    refine Br.f rfl (ct_Size hv ?_)
    rw [i64_add (by omega)]
    exact ⟨⟨i + 1, at' + v / 4096, rfl, h4, hil2, hj⟩, by show ((w.length : Int) - ((at' + v / 4096 : Nat) : Int)).toNat < ((w.length : Int) - (at' : Int)).toNat; omega⟩
  · have hge : at' = w.length := by simp at hge; omega
    have : i = l.length := by
      cases hdr : l.drop i with
      | nil => have := List.drop_eq_nil_iff.1 hdr; omega
      | cons p l' =>
        rw [hdr] at hh
        cases hh with
        | cons h1 h2 h3 h4 => omega
    subst this
    exact q h5 j
theorem ct_cellsAll {s : Sl} {w : List Nat} {Q : Value → Mem → Prop} (x : Els h s (w.map wcell)) (hw : w.length ≤ 1048576)
    (q : ∀ s1 k3 h', Ext h.size h h' → h.size ≤ k3 → h'[k3]? = some (.cells #[sval s1] ty_sl_uint32 (0, 0)) → Owns h' h.size ty_uint32 1 s1 (w.map wcell) → Q (.func (.func fn_cells_All_1) #[] #[.pointer (some ⟨k3, 0, none⟩)]) h') : CallF PG fn_cells_All [sval s] (.one (.leaf .raw)) h Q := by
  refine call_cells_All (w := s) (ct_CloneW x hw fun s1 h2 x2 o2 => New.go fun h4 _ x4 z4 r4 => ?_)
  refine St.all ⟨_, und_words⟩ rfl (vs := [sval s1]) (by kernel_rfl) (by simp [sval, Value.oneCell']) r4 rfl fun h5 u5 r5 => ?_
  exact q s1 _ h5 (x2.after (x4.trans (u5.ext (Nat.le_refl _)))) x2.size r5 ((o2.ext x4).updT u5 r4 (by decide))
def setOf (l : List (Nat × Nat)) (j : Nat) : Bool := l.any fun p => decide (j = p.1)
theorem setOf_step {l : List (Nat × Nat)} {i a v : Nat} (hp : l[i]? = some (a, v)) : (fun j => decide (j = a) || setOf (l.take i) j) = setOf (l.take (i + 1)) := by
  funext j
  rw [List.take_add_one, hp]
  simp [setOf, Bool.or_comm]
abbrev hdB (k1 : Nat) : Int → Int → RB := fun (n34 n35 : Int) (h36 : Mem) (I37 : Mem → (Mem → Prop) → Prop) (I38 I39 I40 : Mem → Prop) =>
  I37 h36 fun (h41 : Mem) => Ld PG ty_ptr_arena_Arena (Addr.mk k1 0 none) (Kd.one (Cmp.leaf Leaf.ptr)) h41 fun (q42 : Option Addr) => Deref q42 fun (p43 : Addr) =>
    Ld PG ty_map_int_bool (p43.add 3) (Kd.one (Cmp.leaf Leaf.map)) h41 fun (q44 : Option Nat) =>
      PrimU PG (Instr.mapUpdate ty_map_int_bool (Value.map q44) (Value.int IntKind.i64 n34) (Value.bool true)) h41 fun (h45 : Mem) => I38 h45
theorem fill_range {k1 ka mp k3 most : Nat} {s1 sw sr : Sl} {W : List Nat} {l : List (Nat × Nat)} {Kn Kr : Mem → Prop} (hw : W.length ≤ 1048576) (hb : ∀ v ∈ W, v ≤ 4294967295) (r1 : h[k1]? = some (.cells #[.pointer (some ⟨ka, 0, none⟩)] ty_ptr_arena_Arena (0, 0)))
    (rk : h[ka]? = some (.cells (arcells sw sr most mp ka).toArray ty_arena_Arena (0, 0))) (set0 : SetIs h mp 0 fun _ => false) (r3 : h[k3]? = some (.cells #[sval s1] ty_sl_uint32 (0, 0))) {B : Nat} (x : Owns h B ty_uint32 1 s1 (W.map wcell)) (hd : Heads W 1 l)
    (q : ∀ h', h.size + 2 ≤ h'.size → (∀ j, j < h.size → j ≠ mp → h'[j]? = h[j]?) → SetIs h' mp l.length (setOf l) → h'[h.size]? = some (.deferred (some [])) → Kn h') :
    RangeFn PG (.func (.func fn_cells_All_1) #[] #[.pointer (some ⟨k3, 0, none⟩)]) h [.leaf (.int .i64), .leaf (.int .u32)] (hdB k1) Kn (fun _ => False) Kr 1000000 := by
  obtain ⟨es, cl, hm⟩ := set0.obj
  have hmp := set0.lt
  have hneR : ∀ {j c e fz}, h[j]? = some (Obj.cells c e fz) → j ≠ mp := fun hj e => by rw [e, hm] at hj; cases hj
  have hlw := hd.len
  refine range_full l.length (hdArgs l) (fun i => match l[i]? with | some (a, v) => hdB k1 (a : Int) (v : Int) | none => fun _ _ _ _ _ => False)
    (fun i h' => h.size + 2 ≤ h'.size ∧ (∀ j, j < h.size → j ≠ mp → h'[j]? = h[j]?) ∧ SetIs h' mp i (setOf (l.take i)) ∧ h'[h.size]? = some (.deferred (some [])))
    (fun lb r Y i hi h2 pd R hl b => ?_) (fun h1 x1 z1 d1 => ⟨by omega, fun j hj _ => x1.block j hj, set0.keep (x1.block _ hmp), d1⟩) (fun i h1 h2 ⟨a1, a2, a3, a4⟩ u => ⟨by rw [u.size]; exact a1, fun j hj hn => (u.block j (by omega)).trans (a2 j hj hn), a3.keep (u.block _ (by omega)), (u.block _ (by omega)).trans a4⟩)
    (fun i h1 h2 ⟨a1, a2, a3, a4⟩ e => ⟨Nat.le_trans a1 e.size, fun j hj hn => (e.block j (by omega)).trans (a2 j hj hn), a3.keep (e.block _ (by omega)), (e.block _ (by omega)).trans a4⟩) ?_ ?_ fun h4 ⟨a1, a2, a3, a4⟩ => q h4 a1 a2 (by rw [List.take_of_length_le (Nat.le_refl _)] at a3; exact a3) a4
  · obtain ⟨⟨a, v⟩, hp⟩ : ∃ p, l[i]? = some p := ⟨_, List.getElem?_eq_getElem hi⟩
    unfold hdArgs
    rw [hp] at b ⊢
    exact Y h2 pd R hl _ _ b
  · intro J h1 y j0 jI jE call
    refine enterV_bound (first := []) (bound := [.pointer (some ⟨k3, 0, none⟩)]) (by kernel_rfl) (call_cells_All_1 ?_)
    obtain ⟨a1, a2, a3, a4⟩ := jI _ _ j0
    show Ld _ _ _ _ _ _
    refine Ld.words (row_cell ((a2 _ (row_lt r3) (hneR r3)).trans r3) rfl) ?_
    refine ct_heads (s := s1) hw hb hd j0 (fun i h' j => ?_) call fun h' j => j
    obtain ⟨a1, a2, a3, a4⟩ := jI _ _ j
    exact Owns.els (x.kept fun ad ha => a2 _ (x.blk ha).2.1 fun e => by
      obtain ⟨_, _, c, hc⟩ := x.blk ha
      exact hneR hc e)
  · intro i h2 o o' begin next ex re hi ⟨a1, a2, a3, a4⟩ ho hbg hnx
    obtain ⟨⟨a, v⟩, hp⟩ : ∃ p, l[i]? = some p := ⟨_, List.getElem?_eq_getElem hi⟩
    rw [hp]
    refine hbg h2 _ ho fun h41 u41 ho41 => ?_
    refine Ld.pa (row_cell ((u41.block _ (by have := row_lt r1; omega)).trans ((a2 _ (row_lt r1) (hneR r1)).trans r1)) rfl) ?_
    show Ld _ _ _ _ _ _
    have hl2 := hd.le _ (List.mem_of_getElem? hp)
    have z41 := u41.size
    refine Ld.map (row_at ((u41.block _ (by have := row_lt rk; omega)).trans ((a2 _ (row_lt rk) (hneR rk)).trans rk)) rfl) ((a3.keep (u41.block _ (by omega))).put (by omega) (by omega) fun h45 set45 u45 => ?_)
    have z45 := u45.size
    refine hnx h45 ((u45.block _ (by omega)).trans ho41) ⟨by omega, fun j hj hn => (u45.block j hn).trans ((u41.block j (by omega)).trans (a2 j hj hn)), ?_, (u45.block _ (by omega)).trans ((u41.block _ (by omega)).trans a4)⟩
    rw [← setOf_step hp]
    exact set45
theorem fill_end {h0 : Mem} {k1 ka mp most : Nat} {sw sr : Sl} {W R : List Nat} {l : List (Nat × Nat)} {Q : Mem → Prop} (hw : W.length ≤ most ∧ most ≤ 1048576) (hb : ∀ v ∈ W, v ≤ 4294967295) (hrb : ∀ v ∈ R, v ≤ 4294967295) (hd : Heads W 1 l)
    (hf : ∀ j, j < h0.size → j ≠ ka → h[j]? = h0[j]?) (hz : h0.size ≤ h.size) (hmp : h0.size ≤ mp) (hk1 : h0.size ≤ k1) (ow : Owns h 0 ty_uint32 1 sw (W.map wcell)) (or : Owns h 0 ty_int 1 sr (R.map icell)) (r1 : h[k1]? = some (.cells #[.pointer (some ⟨ka, 0, none⟩)] ty_ptr_arena_Arena (0, 0)))
    (rk : h[ka]? = some (.cells (arcells sw sr most mp ka).toArray ty_arena_Arena (0, 0))) (set0 : SetIs h mp 0 fun _ => false)
    (q : ∀ h', h0.size ≤ h'.size → (∀ j, j < h0.size → j ≠ ka → h'[j]? = h0[j]?) → ArIs h' ka ⟨W, most, R, setOf l⟩ sw sr mp l.length → Q h') :
    CallF PG fn_cells_All [Value.slice sw.a sw.len sw.cap] (Kd.one (Cmp.leaf Leaf.raw)) h fun (v32 : Value) (h33 : Mem) =>
      RangeFn PG v32 h33 [Cmp.leaf (Leaf.int IntKind.i64), Cmp.leaf (Leaf.int IntKind.u32)] (hdB k1)
        (fun (h46 : Mem) => h46[Array.size h33]? = some (Obj.deferred (some [])) ∧ Q (Array.setIfInBounds h46 (Array.size h33) (Obj.deferred none))) (fun (h49 : Mem) => False)
        (fun (h50 : Mem) => h50[Array.size h33]? = some (Obj.deferred (some [])) ∧ Q (Array.setIfInBounds h50 (Array.size h33) (Obj.deferred none))) 1000000 := by
  refine ct_cellsAll (Owns.els ow) (by omega) fun s1 k3 h1 x1 k3h r3 o1 => ?_
  obtain ⟨es, cl, hm⟩ := set0.obj
  have hneR : ∀ {j c e fz}, h[j]? = some (Obj.cells c e fz) → j ≠ mp := fun hj e => by rw [e, hm] at hj; cases hj
  refine fill_range (by omega) hb (x1.row' r1) (x1.row' rk) (set0.keep (x1.block _ set0.lt)) r3 o1 hd fun h4 z4 f4 s4 d4 => ⟨d4, ?_⟩
  have z1 := x1.size
  generalize hh5 : Array.setIfInBounds h4 h1.size (Obj.deferred none) = h5
  have b5 : ∀ j, j ≠ h1.size → h5[j]? = h4[j]? := fun j hj => by rw [← hh5, Array.getElem?_setIfInBounds_ne (fun e => hj e.symm)]
  have z5 : h5.size = h4.size := by rw [← hh5]; simp
  have keep : ∀ j, j < h.size → j ≠ mp → h5[j]? = h[j]? := fun j hj hn => (b5 j (by omega)).trans ((f4 j (by omega) hn).trans (x1.block j hj))
  have hmlt := set0.lt
  refine q h5 (by omega) (fun j hj hn => (keep j (by omega) (by omega)).trans (hf j hj hn)) ⟨(keep _ (row_lt rk) (hneR rk)).trans rk, ow.kept fun ad ha => keep _ (Owns.blk ow ha).2.1 fun e => ?_, or.kept fun ad ha => keep _ (Owns.blk or ha).2.1 fun e => ?_, s4.keep (b5 _ (by omega)), hb, hrb, hw, ?_⟩
  · obtain ⟨_, _, c, hc⟩ := Owns.blk ow ha
    exact hneR hc e
  · obtain ⟨_, _, c, hc⟩ := Owns.blk or ha
    exact hneR hc e
  · have := hd.len
    show l.length ≤ W.length
    omega
/-- on the way through fill -/
structure FS (h : Mem) (ka : Nat) (sw sr : Sl) (W R : List Nat) (hh : Mem) (cs : List Value) : Prop where
  frame : ∀ j, j < h.size → j ≠ ka → hh[j]? = h[j]?
  size : h.size < hh.size
  kl : ka < h.size
  r1 : hh[h.size]? = some (.cells #[.pointer (some ⟨ka, 0, none⟩)] ty_ptr_arena_Arena (0, 0))
  rk : hh[ka]? = some (.cells cs.toArray ty_arena_Arena (0, 0))
  ow : Owns hh 0 ty_uint32 1 sw (W.map wcell)
  or : Owns hh 0 ty_int 1 sr (R.map icell)
theorem FS.ext {h hh hh' : Mem} {ka : Nat} {sw sr : Sl} {W R : List Nat} {cs : List Value} (x : FS h ka sw sr W R hh cs) (e : Ext hh.size hh hh') : FS h ka sw sr W R hh' cs :=
  ⟨fun j hj hn => (e.block j (Nat.lt_trans hj x.size)).trans (x.frame j hj hn), Nat.lt_of_lt_of_le x.size e.size, x.kl, e.row' x.r1, e.row' x.rk, x.ow.ext e, x.or.ext e⟩
theorem FS.ld {h hh : Mem} {ka : Nat} {sw sr : Sl} {W R : List Nat} {cs : List Value} {K : Option Addr → Prop} (x : FS h ka sw sr W R hh cs) (k : K (some ⟨ka, 0, none⟩)) : Ld PG ty_ptr_arena_Arena ⟨h.size, 0, none⟩ (.one (.leaf .ptr)) hh K := Ld.pa (row_cell x.r1 rfl) k
theorem FS.sto {h hh : Mem} {ka : Nat} {sw sr : Sl} {W R : List Nat} {cs : List Value} (x : FS h ka sw sr W R hh cs) {t : TypeId} {o : Nat} {v : Value} {K : Mem → Prop} (hu : ∃ d, PG.underlying t = some d) (hsz : szOf PG t = 1) (hv : v.cells = #[v]) (h1 : v.oneCell' = true) (ho : o < cs.length)
    (k : ∀ hh', FS h ka sw sr W R hh' (cs.set o v) → Upd ka hh hh' → K hh') : St PG t ((⟨ka, 0, none⟩ : Addr).add o) v hh K :=
  St.at1 hu hsz hv h1 x.rk ho fun hh' u r => k hh' ⟨fun j hj hn => (u.block j hn).trans (x.frame j hj hn), by rw [u.size]; exact x.size, x.kl, u.row x.r1 (by have := x.kl; omega), r, x.ow.updT u x.rk (by decide), x.or.updT u x.rk (by decide)⟩ u
theorem FS.make {h hh : Mem} {ka : Nat} {sw sr : Sl} {W R : List Nat} {cs : List Value} (x : FS h ka sw sr W R hh cs) {t : TypeId} {K : Option Nat → Mem → Prop} (k : ∀ mp hh', FS h ka sw sr W R hh' cs → SetIs hh' mp 0 (fun _ => false) → h.size ≤ mp → K (some mp) hh') : PrimT PG (Instr.makeMap t none) (.one (.leaf .map)) hh K :=
  SetIs.make fun hh' s e z => k _ _ (x.ext e) s (Nat.le_of_lt x.size)
theorem sz1 : szOf PG ty_sl_uint32 = 1 ∧ szOf PG ty_sl_int = 1 ∧ szOf PG ty_map_int_bool = 1 ∧ szOf PG ty_func_int_bool = 1 := ⟨by kernel_rfl, by kernel_rfl, by kernel_rfl, by kernel_rfl⟩
theorem ct_fill {ka most : Nat} {x0 x2 x3 x4 : Value} {sw sr : Sl} {W R : List Nat} {l : List (Nat × Nat)} {Q : Mem → Prop} (hw : W.length ≤ most ∧ most ≤ 1048576) (hb : ∀ v ∈ W, v ≤ 4294967295) (hrb : ∀ v ∈ R, v ≤ 4294967295) (hd : Heads W 1 l)
    (ow : Owns h 0 ty_uint32 1 sw (W.map wcell)) (or : Owns h 0 ty_int 1 sr (R.map icell)) (rk : h[ka]? = some (.cells [x0, .int .i64 (most : Int), x2, x3, x4].toArray ty_arena_Arena (0, 0)))
    (q : ∀ mp h', h.size ≤ h'.size → (∀ j, j < h.size → j ≠ ka → h'[j]? = h[j]?) → h.size ≤ mp → ArIs h' ka ⟨W, most, R, setOf l⟩ sw sr mp l.length → Q h') :
    CallF PG fn_arena_Arena_fill [.pointer (some ⟨ka, 0, none⟩), sval sw, sval sr] (.tup []) h Q := by
  have hka := row_lt rk
  refine call_arena_Arena_fill (w := sw) (roots := sr) (New.go fun h2 _ y2 z2 r2 => ?_)
  have rk2 := y2.row' rk
  refine Ld.pa (row_cell r2 rfl) (Ld.pa (row_cell r2 rfl) (Ld.pa (row_cell r2 rfl) (Ld.pa (row_cell r2 rfl) (Ld.pa (row_cell r2 rfl) ?_))))
  have x2 : FS h ka sw sr W R h2 _ := ⟨fun j hj hn => y2.block j hj, by omega, hka, r2, rk2, ow.ext y2, or.ext y2⟩
  have fin : ∀ (mp : Nat) (hh : Mem), FS h ka sw sr W R hh (arcells sw sr most mp ka) → SetIs hh mp 0 (fun _ => false) → h.size ≤ mp → _ := fun mp hh x s hmp => fill_end (h := hh) (h0 := h) (mp := mp) (Q := Q) hw hb hrb hd x.frame (Nat.le_of_lt x.size) hmp (Nat.le_refl _) x.ow x.or x.r1 x.rk s (q mp · · · hmp ·)
  have keepS : ∀ {mp : Nat} {hh hh' : Mem}, SetIs hh mp 0 (fun _ => false) → h.size ≤ mp → Upd ka hh hh' → SetIs hh' mp 0 (fun _ => false) := fun s hmp u => s.keep (u.block _ (by omega))
  obtain ⟨z1, z2, z3, z4⟩ := sz1
  refine ⟨x2.make fun mp h10 x10 s10 hmp => ⟨x10.ld rfl, x10.ld rfl, x10.ld rfl, x10.ld rfl, x10.ld rfl, ?_⟩, ?_⟩
  · refine x10.sto (o := 0) ⟨_, und_words⟩ z1 rfl rfl (by show 0 < 5; decide) fun h16 x16 u16 => ⟨x16.ld rfl, x16.ld rfl, x16.ld rfl, x16.ld rfl, ?_⟩
    show St _ _ _ _ _ _
    refine x16.sto (o := 2) ⟨_, und_ints⟩ z2 rfl rfl (by show 2 < 5; decide) fun h22 x22 u22 => ⟨x22.ld rfl, x22.ld rfl, x22.ld rfl, ?_⟩
    show St _ _ _ _ _ _
    refine x22.sto (o := 3) ⟨_, und_map⟩ z3 rfl rfl (by show 3 < 5; decide) fun h27 x27 u27 => ⟨x27.ld rfl, x27.ld rfl, ?_⟩
    show St _ _ _ _ _ _
    refine x27.sto (o := 4) und_has z4 rfl rfl (by show 4 < 5; decide) fun h31 x31 u31 => ?_
    exact fin mp h31 x31 (keepS (keepS (keepS (keepS s10 hmp u16) hmp u22) hmp u27) hmp u31) hmp
  refine x2.sto (o := 0) ⟨_, und_words⟩ z1 rfl rfl (by show 0 < 5; decide) fun h53 x53 u53 => ⟨x53.ld rfl, x53.ld rfl, x53.ld rfl, x53.ld rfl, ?_⟩
  show _ ∧ _
  refine ⟨x53.make fun mp h60 x60 s60 hmp => ⟨x60.ld rfl, x60.ld rfl, x60.ld rfl, x60.ld rfl, ?_⟩, ?_⟩
  · refine x60.sto (o := 2) ⟨_, und_ints⟩ z2 rfl rfl (by show 2 < 5; decide) fun h22 x22 u22 => ⟨x22.ld rfl, x22.ld rfl, x22.ld rfl, ?_⟩
    show St _ _ _ _ _ _
    refine x22.sto (o := 3) ⟨_, und_map⟩ z3 rfl rfl (by show 3 < 5; decide) fun h27 x27 u27 => ⟨x27.ld rfl, x27.ld rfl, ?_⟩
    show St _ _ _ _ _ _
    refine x27.sto (o := 4) und_has z4 rfl rfl (by show 4 < 5; decide) fun h31 x31 u31 => ?_
    exact fin mp h31 x31 (keepS (keepS (keepS s60 hmp u22) hmp u27) hmp u31) hmp
  refine x53.sto (o := 2) ⟨_, und_ints⟩ z2 rfl rfl (by show 2 < 5; decide) fun h96 x96 u96 => ⟨x96.ld rfl, x96.ld rfl, x96.ld rfl, ?_⟩
  refine x96.make fun mp h101 x101 s101 hmp => ⟨x101.ld rfl, x101.ld rfl, x101.ld rfl, ?_⟩
  show St _ _ _ _ _ _
  refine x101.sto (o := 3) ⟨_, und_map⟩ z3 rfl rfl (by show 3 < 5; decide) fun h27 x27 u27 => ⟨x27.ld rfl, x27.ld rfl, ?_⟩
  show St _ _ _ _ _ _
  refine x27.sto (o := 4) und_has z4 rfl rfl (by show 4 < 5; decide) fun h31 x31 u31 => ?_
  exact fin mp h31 x31 (keepS (keepS s101 hmp u27) hmp u31) hmp
end
end Go.Dn.W
