/- The arena: roots, objects. -/
import Derived.Test.YtbipdjmdacelkaaGreatDnAs
import Derived.Test.YtbipdjmdacelkaaGreatDnV
set_option linter.unusedVariables false
namespace Go.Dn.W
open Go Go.Dn Go.Proofs

section
variable {h : Mem}
theorem Owns.store1 {B : Nat} {t e : TypeId} {s : Sl} {l : List Value} {i : Nat} {v : Value} {K : Mem → Prop} (hu : ∃ d, PG.underlying t = some d) (hsz : szOf PG t = 1) (o : Owns h B e 1 s l) (hi : i < l.length) (hv : v.cells = #[v]) (h1 : v.oneCell' = true) {a : Addr} (ha : s.a = some a)
    (hk : ∀ h', Owns h' B e 1 s (l.set i v) → Upd a.block h h' → K h') : St PG t (a.add (i * 1)) v h K := by
  obtain ⟨d, hd⟩ := hu
  have hlen := Owns.len1 o
  rcases o.2 with ⟨hv', _⟩ | ⟨g, cap, cur, hv', hB, hg, hc, hm, hcs, htk⟩
  · simp only [Value.slice.injEq] at hv'; rw [hv'.1] at ha; cases ha
  · simp only [Value.slice.injEq] at hv'
    rw [hv'.1] at ha
    cases ha
    have hg : h[g]? = some (.cells cur e (0, 0)) := hg
    rw [Nat.mul_one] at hcs htk
    rw [add_off, Nat.zero_add, Nat.mul_one]
    refine St.row hd (vs := [v]) (by rw [hv]) hsz (by intro u hu; simp only [List.mem_cons, List.not_mem_nil, or_false] at hu; subst hu; exact h1) hg (by show i + 1 ≤ cur.size; omega) fun h' u r => hk h' ⟨by rw [List.length_set, hlen]; simp, .inr ⟨g, cap, _, by rw [hv'.1, hv'.2.2], hB, r, hc, hm, ?_, ?_⟩⟩ u
    · simp only [List.size_toArray, List.length_append, List.length_take, List.length_drop, Array.length_toList, List.length_cons, List.length_nil]
      omega
    · have e1 : cur.toList.take i ++ [v] ++ cur.toList.drop (i + [v].length) = cur.toList.set i v := by
        rw [List.set_eq_take_append_cons_drop, if_pos (by rw [Array.length_toList]; omega)]; simp
      show ((cur.toList.take i ++ [v] ++ cur.toList.drop (i + [v].length)).take (s.len * 1)) = _
      rw [e1, Nat.mul_one, List.take_set, htk]

variable {ka : Nat} {A : Ar}
theorem ct_SetRoot {Q : Int → Mem → Prop} (a : ArAt h ka A) {slot at' : Nat} (hs : slot < A.roots.length) (hat : at' = 0 ∨ A.objs at' = true) (hb : at' ≤ 4294967295)
    (q : ∀ h', ArAt h' ka { A with roots := A.roots.set slot at' } → ArX ka h.size h h' → Q 0 h') : CallF PG fn_arena_Arena_SetRoot [.pointer (some ⟨ka, 0, none⟩), .int .i64 (slot : Int), .int .i64 (at' : Int)] (.one (.leaf (.int .i64))) h Q := by
  have a' := a
  obtain ⟨sw, sr, mp, n, a⟩ := a
  have e := Owns.els a.roots
  have hlen := e.len
  rw [List.length_map] at hlen
  obtain ⟨r, hr⟩ : ∃ r, (A.roots.map icell)[slot]? = some r := ⟨_, List.getElem?_eq_getElem (by rw [List.length_map]; exact hs)⟩
  have fin : Ld PG ty_sl_int ((⟨ka, 0, none⟩ : Addr).add 2) (.one (.leaf .sl)) h fun (s15 : Sl) => Idx s15.a s15.len (slot : Int) fun (p16 : Addr) => St PG ty_int (p16.add ((slot : Int).toNat * 1)) (Value.int IntKind.i64 (at' : Int)) h fun (h17 : Mem) => Q 0 h17 := by
    refine deref_sr a (e.get hr fun ad ha hc => ?_)
    rw [nat_mul]
    refine Owns.store1 ⟨_, und_i⟩ (by kernel_rfl) a.roots (v := icell at') (by rw [List.length_map]; exact hs) rfl rfl ha fun h' o u => ?_
    have hne : ad.block ≠ ka := fun e' => by
      obtain ⟨_, _, c, hc'⟩ := Owns.blk a.roots ha
      rw [e', a.r] at hc'; cases hc'
    have hnm : ad.block ≠ mp := fun e' => by
      obtain ⟨_, _, c, hc'⟩ := Owns.blk a.roots ha
      obtain ⟨es, cl, hm⟩ := a.set.obj
      rw [e', hm] at hc'; cases hc'
    have hka := u.block ka fun e' => hne e'.symm
    refine q h' ⟨sw, sr, mp, n, ⟨hka.trans a.r, Owns.kept a.w fun b hb' => u.block _ fun e' => ?_, by rw [List.map_set]; exact o, a.set.keep (u.block _ fun e' => hnm e'.symm), a.wb, fun v hv => ?_, a.most, a.n⟩⟩
      ⟨Nat.le_of_eq u.size.symm, fun j hj hn => u.block j fun e' => hn (e' ▸ a.rIn ha), fun j hj => .inr (inAr_of hka hj)⟩
    · obtain ⟨_, _, c, hc'⟩ := Owns.blk a.roots ha
      obtain ⟨_, _, c2, hc2⟩ := Owns.blk a.w hb'
      rw [← e', hc2] at hc'
      cases hc'
    · rcases List.mem_or_eq_of_mem_set hv with h1 | rfl
      · exact a.rb v h1
      · exact hb
  refine call_arena_Arena_SetRoot (Br.f rfl (Br.f (by simp) ?_))
  show Ld _ _ _ _ _ _
  refine deref_sr a (Br.f (by simp; omega) (Br.mk (fun e0 => ?_) fun e0 => fin))
  have h1 : A.objs at' = true := hat.resolve_left (by rintro rfl; cases e0)
  have := ct_is (Q := fun b8 h9 => Br (!b8) (Q 1 h9) (Deref (some ⟨ka, 0, none⟩) fun (p10 : Addr) => Ld PG ty_sl_int (p10.add 2) (Kd.one (Cmp.leaf Leaf.sl)) h9 fun (s11 : Sl) => Idx s11.a s11.len (slot : Int) fun (p12 : Addr) => St PG ty_int (p12.add ((slot : Int).toNat * 1)) (Value.int IntKind.i64 (at' : Int)) h9 fun (h13 : Mem) => Q 0 h13)) a' (j := at') (by omega) (Br.f (by rw [h1]; rfl) fin)
  exact this

/-! ### an object -/
theorem ct_CloneW {s : Sl} {l : List Nat} {Q : Sl → Mem → Prop} (x : Els h s (l.map wcell)) (hl : l.length ≤ 1048576) (q : ∀ s' h', Ext h.size h h' → Owns h' h.size ty_uint32 1 s' (l.map wcell) → Q s' h') : CallF PG fn_slices_Clone_uint32_uint32_ [sval s] (.one (.leaf .sl)) h Q := by
  obtain ⟨sa, sl, sc⟩ := s
  refine call_slices_Clone_uint32_uint32_ (s := ⟨sa, sl, sc⟩) ?_
  unfold wp_slices_Clone_uint32_uint32_
  have hlen := x.len
  cases sa with
  | none =>
    have h0 : sl = 0 := (x.nil rfl).1
    have hl : l = [] := List.eq_nil_of_length_eq_zero (by rw [List.length_map] at hlen; have hlen : sl = l.length := hlen; omega)
    subst hl
    exact Br.t rfl (q ⟨none, 0, 0⟩ h (Ext.refl _ _) (Owns.nil h _ _ _))
  | some a =>
    refine Br.f rfl (New.go fun h1 e1 x1 z1 r1 => ?_)
    have ho : Owns h1 h.size ty_uint32 1 ⟨some ⟨h.size, 0, none⟩, 0, 0⟩ [] := ⟨rfl, .inr ⟨h.size, 0, #[], rfl, Nat.le_refl _, r1, Nat.le_refl _, Nat.zero_le _, rfl, rfl⟩⟩
    refine Owns.put (bytes := 4) und_words info_w (by decide) ho (x.ext x1) (fun u hu => ?_) (by rw [List.length_map, List.length_nil]; omega) x1.size fun s' h' o g => q s' h' (x1.trans (Owns.grownExt ho x1.size g)) (by simpa using o)
    obtain ⟨v, _, rfl⟩ := List.mem_map.1 hu
    rfl
theorem oneWords {l : List Nat} : ∀ u ∈ l.map wcell, u.oneCell' = true := fun u hu => by
  obtain ⟨v, _, rfl⟩ := List.mem_map.1 hu; rfl
theorem oneInts {l : List Nat} : ∀ u ∈ l.map icell, u.oneCell' = true := fun u hu => by
  obtain ⟨v, _, rfl⟩ := List.mem_map.1 hu; rfl
theorem ct_object {s : Sl} {w : List Nat} {at' v : Nat} {Q : Int → Sl → Sl → Mem → Prop} (x : Els h s (w.map wcell)) (hw : w.length ≤ 1048576) (hv : w[at']? = some v) (hb : ∀ u ∈ w, u ≤ 4294967295) (h1 : v / 16 % 256 + 1 ≤ v / 4096) (h2 : at' + v / 4096 ≤ w.length)
    (q : ∀ sp sd h', Ext h.size h h' → Owns h' h.size ty_int 1 sp (((w.drop (at' + 1)).take (v / 16 % 256)).map icell) → Owns h' h.size ty_uint32 1 sd (((w.drop (at' + 1 + v / 16 % 256)).take (v / 4096 - 1 - v / 16 % 256)).map wcell) → Q ((v % 16 : Nat) : Int) sp sd h') :
    CallF PG fn_arena_object [sval s, .int .i64 (at' : Int)] (.one (.agg [.int .i64, .sl, .sl])) h Q := by
  have hat := (List.getElem?_eq_some_iff.1 hv).1
  have hv2 := hb v (List.mem_of_getElem? hv)
  refine call_arena_object (w := s) (New.go fun g2 _ x2 z2 r2 => ?_)
  have y2 := x.ext x2
  refine y2.get (v := wcell v) (by rw [List.getElem?_map, hv]; rfl) fun ad ha hc => ?_
  rw [nat_mul, Nat.mul_one]
  refine Ld.w hc (ct_Ptrs hv2 (ct_Kind hv2 (ct_Size hv2 ?_)))
  generalize hp : v / 16 % 256 = p at *
  generalize hz : v / 4096 = z at *
  have e1 : IntKind.i64.wrap (IntKind.i64.wrap ((at' : Int) + 1) + (p : Int)) = ((at' + 1 + p : Nat) : Int) := by rw [wrap_succ (by omega), i64_add (by omega)]
  have e2 : IntKind.i64.wrap ((at' : Int) + (z : Int)) = ((at' + 1 + p + (z - 1 - p) : Nat) : Int) := by rw [i64_add (by omega)]; congr 1; omega
  rw [e1, e2]
  refine y2.part (by rw [List.length_map]; omega) fun s11 y11 => ?_
  rw [← List.map_drop, ← List.map_take] at y11
  refine ct_CloneW y11 (by rw [List.length_take, List.length_drop]; omega) fun s12 h13 x13 o13 => New.go fun h15 _ x15 z15 r15 => ?_
  refine St.all und_obj rfl (vs := objcells ((v % 16 : Nat) : Int) ⟨none, 0, 0⟩ s12) sz_obj (by intro u hu; simp only [objcells, List.mem_cons, List.not_mem_nil, or_false] at hu; rcases hu with rfl | rfl | rfl <;> rfl) r15 rfl fun h16 u16 r16 => ?_
  have z13 := x13.size
  have z16 := u16.size
  have x16 : Ext h.size h h16 := x2.after (x13.after (x15.trans (u16.ext (Nat.le_refl _))))
  rw [wrap_succ (m := at') (by omega)]
  refine x.part (a := at' + 1) (n := p) (by rw [List.length_map]; omega) fun s17 y17 => ?_
  rw [← List.map_drop, ← List.map_take] at y17
  generalize hps : (w.drop (at' + 1)).take p = ps at *
  have hl17 : ps.length = p := by rw [← hps, List.length_take, List.length_drop]; omega
  have hpl : p ≤ 1048576 := by omega
  have o16 : Owns h16 h.size ty_uint32 1 s12 (((w.drop (at' + 1 + p)).take (z - 1 - p)).map wcell) := ((o13.ext x15).base (by omega)).updT u16 r15 (by decide)
  have r1 : h16[h.size]? = some (.cells #[.int .i64 0, .slice none 0 0, .slice none 0 0] ty_api_Object (0, 0)) := (u16.block _ (by omega)).trans ((x15.block _ (by omega)).trans ((x13.block _ (by omega)).trans r2))
  generalize hk14 : h13.size = k14 at *
  have hk14h : h.size < k14 := by omega
  have hnp : h.size ≠ k14 := by omega
  have z17 := y17.len
  rw [List.length_map, hl17] at z17
  generalize hd : ((w.drop (at' + 1 + p)).take (z - 1 - p)).map wcell = dd at *
  refine ⟨fun n h' => ∃ i : Nat, n = (i : Int) ∧ i ≤ p ∧ Ext h.size h h' ∧ h'[h.size]? = some (.cells #[.int .i64 0, .slice none 0 0, .slice none 0 0] ty_api_Object (0, 0)) ∧
    ∃ sp, h'[k14]? = some (.cells (objcells ((v % 16 : Nat) : Int) sp s12).toArray ty_api_Object (0, 0)) ∧ Owns h' h.size ty_int 1 sp ((ps.take i).map icell) ∧ Owns h' h.size ty_uint32 1 s12 dd, fun n _ => (p - n).toNat,
    ⟨0, rfl, Nat.zero_le _, x16, r1, ⟨none, 0, 0⟩, r16, Owns.nil _ _ _ _, o16⟩, ?_⟩
  rintro _ _ hi ⟨i, rfl, hip, xi, r1i, sp, ri, oi, di⟩
  refine Br.mk (fun hlt => ?_) fun hge => ?_
  · have hlt : i < p := by simp at hlt; omega
    obtain ⟨u, hu⟩ : ∃ u, ps[i]? = some u := ⟨_, List.getElem?_eq_getElem (by omega)⟩
    have hu2 : u ≤ 4294967295 := hb u (by have := List.mem_of_getElem? hu; rw [← hps] at this; exact List.mem_of_mem_drop (List.mem_of_mem_take this))
    have := y17.ext xi
    refine this.get (v := wcell u) (by rw [List.getElem?_map, hu]; rfl) fun ad ha hc => ?_
    rw [nat_mul, Nat.mul_one]
    refine Ld.w hc (Ld.ints (row_at ri rfl) ?_)
    rw [i64_nat (by omega)]
    have hbs : h.size ≤ hi.size := xi.size
    refine put_new (news := [icell u]) (bytes := 8) und_ints info_i (by decide) oi rfl (by simp [icell, Value.oneCell']) (by have := Owns.len1 oi; rw [List.length_map, List.length_take] at this; omega) hbs fun s28 h29 _ o29 g29 => ?_
    have r29 := g29.row oi ri (by decide)
    have r129 := g29.row oi r1i (by decide)
    have d29 := di.grown oi (by decide) g29
    have x29 : Ext h.size h h29 := xi.trans (oi.grownExt hbs g29)
    refine St.at1 ⟨_, und_ints⟩ (by kernel_rfl) rfl rfl r29 (by show 1 < 3; decide) fun h30 u30 r30 => ?_
    rw [wrap_succ (by omega)]
    refine ⟨⟨i + 1, rfl, hlt, x29.trans (u30.ext (by omega)), u30.row r129 hnp, s28, r30, ?_, d29.updT u30 r29 (by decide)⟩, by show ((p : Int) - ((i + 1 : Nat) : Int)).toNat < ((p : Int) - (i : Int)).toNat; omega⟩
    rw [List.take_add_one, hu, List.map_append]
    exact o29.updT u30 r29 (by decide)
  · have hge : i = p := by simp at hge; omega
    subst hge
    refine Ld.obj (Cells.whole ri) (St.all und_obj rfl (vs := objcells ((v % 16 : Nat) : Int) sp s12) sz_obj (by intro u hu; simp only [objcells, List.mem_cons, List.not_mem_nil, or_false] at hu; rcases hu with rfl | rfl | rfl <;> rfl) r1i rfl fun h34 u34 r34 => ?_)
    refine Ld.obj (Cells.whole r34) (q _ _ _ (xi.trans (u34.ext (Nat.le_refl _))) ?_ (di.updT u34 r1i (by decide)))
    have := oi.updT u34 r1i (by decide)
    rw [List.take_of_length_le (by omega)] at this
    exact this
/-! ### what an object is -/
structure Obj' where
  kind : Nat
  ptrs : List Nat
  data : List Nat
/-- at a place there is that object -/
structure IsObj (A : Ar) (at' : Nat) (o : Obj') : Prop where
  is : A.objs at' = true
  kind : o.kind < 16
  ptrs : o.ptrs.length ≤ 255
  data : 1 + o.ptrs.length + o.data.length < 1048576
  cut : A.w.drop at' = headOf (1 + o.ptrs.length + o.data.length) o.ptrs.length o.kind :: o.ptrs ++ o.data ++ A.w.drop (at' + (1 + o.ptrs.length + o.data.length))
theorem IsObj.head {A : Ar} {at' : Nat} {o : Obj'} (x : IsObj A at' o) : A.w[at']? = some (headOf (1 + o.ptrs.length + o.data.length) o.ptrs.length o.kind) := by
  have := congrArg (fun l => l[0]?) x.cut
  simpa [List.getElem?_drop] using this
theorem head_kind {s p k : Nat} (hk : k < 16) : headOf s p k % 16 = k := by unfold headOf; omega
theorem head_ptrs {s p k : Nat} (hk : k < 16) (hp : p ≤ 255) : headOf s p k / 16 % 256 = p := by unfold headOf; omega
theorem head_size {s p k : Nat} (hk : k < 16) (hp : p ≤ 255) : headOf s p k / 4096 = s := by unfold headOf; omega
theorem IsObj.fits {A : Ar} {at' : Nat} {o : Obj'} (x : IsObj A at' o) : at' + (1 + o.ptrs.length + o.data.length) ≤ A.w.length := by
  have h1 := (List.getElem?_eq_some_iff.1 x.head).1
  have := congrArg List.length x.cut
  simp only [List.length_drop, List.length_cons, List.length_append] at this
  omega
theorem ct_At {ka : Nat} {A : Ar} {at' : Nat} {o : Obj'} {h : Mem} {Q : Int → Sl → Sl → Int → Mem → Prop} (a : ArAt h ka A) (x : IsObj A at' o)
    (q : ∀ sp sd h', Ext h.size h h' → Owns h' h.size ty_int 1 sp (o.ptrs.map icell) → Owns h' h.size ty_uint32 1 sd (o.data.map wcell) → Q (o.kind : Int) sp sd 0 h') :
    CallF PG fn_arena_Arena_At [.pointer (some ⟨ka, 0, none⟩), .int .i64 (at' : Int)] (.tup [(.agg [.int .i64, .sl, .sl]), .leaf (.int .i64)]) h Q := by
  refine call_arena_Arena_At (New.go fun h2 _ x2 z2 r2 => Br.f rfl ?_)
  show Ld _ _ _ _ _ _
  have a2 := a.ext x2
  have ar := a2
  obtain ⟨sw, sr, mp, n, ar⟩ := ar
  have hfit := x.fits
  have hm := ar.most
  refine ct_is (Q := fun b12 h13 => Br (!b12) _ _) a2 (by omega) (Br.f (by rw [x.is]; rfl) ?_)
  show Ld _ _ _ _ _ _
  refine deref_sw ar ?_
  have hh := x.head
  have e1 := head_size (s := 1 + o.ptrs.length + o.data.length) x.kind x.ptrs
  have e2 := head_ptrs (s := 1 + o.ptrs.length + o.data.length) x.kind x.ptrs
  have e3 := head_kind (s := 1 + o.ptrs.length + o.data.length) (p := o.ptrs.length) x.kind
  refine ct_object (Owns.els ar.w) (by omega) hh ar.wb (by rw [e1, e2]; omega) (by rw [e1]; omega) ?_
  rw [e1, e2, e3]
  have c := x.cut
  have hd1 : A.w.drop (at' + 1) = o.ptrs ++ (o.data ++ A.w.drop (at' + (1 + o.ptrs.length + o.data.length))) := by
    have := congrArg (List.drop 1) c
    rw [List.drop_drop] at this
    simpa using this
  have hd2 : A.w.drop (at' + 1 + o.ptrs.length) = o.data ++ A.w.drop (at' + (1 + o.ptrs.length + o.data.length)) := by
    have := congrArg (List.drop o.ptrs.length) hd1
    rw [List.drop_drop] at this
    simpa using this
  rw [hd1, hd2, List.take_left, show 1 + o.ptrs.length + o.data.length - 1 - o.ptrs.length = o.data.length by omega, List.take_left]
  intro sp sd h' x' op od
  have r' := x'.row' r2
  refine St.all und_obj rfl (vs := objcells (o.kind : Int) sp sd) sz_obj (by intro u hu; simp only [objcells, List.mem_cons, List.not_mem_nil, or_false] at hu; rcases hu with rfl | rfl | rfl <;> rfl) r' rfl fun h34 u34 r34 => ?_
  have hz := x2.size
  exact Ld.obj (Cells.whole r34) (q _ _ _ ((x2.after x').trans (u34.ext (Nat.le_refl _))) ((op.base hz).updT u34 r' (by decide)) ((od.base hz).updT u34 r' (by decide)))
end
end Go.Dn.W
