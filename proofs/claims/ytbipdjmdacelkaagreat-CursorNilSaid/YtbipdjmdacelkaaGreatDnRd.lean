/- Nodes read from words. -/
import Derived.Test.YtbipdjmdacelkaaGreatDnNe
set_option linter.unusedVariables false
namespace Go.Dn.W
open Go Go.Dn Go.Proofs

theorem ser_eq {s : Nat} (h : s ≤ 18446744073709551615) : bitsOf BinOp.or IntKind.u64 (IntKind.u64.wrap ((s % 4294967296 : Nat) : Int)) (IntKind.u64.wrap (IntKind.u64.wrap ((s / 4294967296 : Nat) : Int) * Int.ofNat 4294967296)) = (s : Int) := by
  have h0 : (2 : Nat) ^ 32 = 4294967296 := by decide
  have e1 : ((s / 4294967296 : Nat) : Int) * Int.ofNat 4294967296 = ((s / 4294967296 * 4294967296 : Nat) : Int) := by
    generalize s / 4294967296 = a
    generalize (4294967296 : Nat) = b
    show (a : Int) * (b : Int) = _
    simp
  rw [u64_eq (n := s % 4294967296) (by omega), u64_eq (n := s / 4294967296) (by omega), e1, u64_eq (by omega), ← h0, or64 (Nat.mod_lt _ (by decide)) (by rw [h0]; omega), h0]
  congr 1
  omega
theorem enc_drop {es : List En} {i : Nat} {e : En} (he : es[i]? = some e) : (enc es).drop (enc (es.take i)).length = encE e ++ enc (es.drop (i + 1)) := by
  have h1 : es = es.take i ++ e :: es.drop (i + 1) := by
    have hi := (List.getElem?_eq_some_iff.1 he).1
    have h2 := List.drop_eq_getElem_cons hi
    rw [List.getElem?_eq_getElem hi] at he
    rw [Option.some.inj he] at h2
    rw [← h2, List.take_append_drop]
  have h2 : enc es = enc (es.take i) ++ (encE e ++ enc (es.drop (i + 1))) := by
    conv => lhs; rw [h1]
    simp [enc]
  rw [h2, List.drop_left]
theorem enc_get {es : List En} {i j : Nat} {e : En} {v : Nat} (he : es[i]? = some e) (hj : (encE e)[j]? = some v) : (enc es)[(enc (es.take i)).length + j]? = some v := by
  rw [← List.getElem?_drop, enc_drop he, List.getElem?_append_left (List.getElem?_eq_some_iff.1 hj).1]
  exact hj
theorem enc_take {es : List En} {i : Nat} {e : En} (he : es[i]? = some e) : enc (es.take (i + 1)) = enc (es.take i) ++ encE e := by
  rw [List.take_add_one, he]
  simp [enc]
theorem enc_le_len (es : List En) (i : Nat) : (enc (es.take i)).length ≤ (enc es).length := by
  have : es = es.take i ++ es.drop i := (List.take_append_drop i es).symm
  conv => rhs; rw [this]
  unfold enc
  rw [List.map_append, List.flatten_append, List.length_append]
  omega
/-- where the refs of the first i entries stand -/
def refAt (es : List En) (j : Nat) : Nat := (enc (es.take j)).length + (1 + match es[j]? with | some e => (e.1.size + 3) / 4 | none => 0)
def posL (es : List En) (i : Nat) : List Nat := (List.range i).map (refAt es)
theorem posL_succ (es : List En) (i : Nat) : posL es (i + 1) = posL es i ++ [refAt es i] := by simp [posL, List.range_succ]
theorem encE_split (e : En) : encE e = (e.1.size :: kw e.1.toList) ++ encR e.2 := rfl
theorem set_next {l : List UInt8} {k : Nat} {b : UInt8} (hb : l[k]? = some b) : ((l.take k).map bcell ++ List.replicate (l.length - k) (bcell 0)).set k (bcell b) = (l.take (k + 1)).map bcell ++ List.replicate (l.length - (k + 1)) (bcell 0) := by
  have hk := (List.getElem?_eq_some_iff.1 hb).1
  rw [List.set_append_right _ _ (by rw [List.length_map, List.length_take]; omega), List.length_map, List.length_take, show k - min k l.length = 0 by omega, show l.length - k = (l.length - (k + 1)) + 1 by omega, List.replicate_succ, List.set_cons_zero, List.take_add_one, hb]
  simp
section
variable {h : Mem}
theorem ct_read {kind : Int} {sp sd : Sl} {es : List En} {Q : Sl → Sl → Sl → Sl → Mem → Prop} (x : Els h sd ((enc es).map wcell)) (ok : ∀ e ∈ es, e.Ok) (hn : es.length ≤ 1000)
    (q : ∀ sk sr sa h', Ext h.size h h' → Owns h' h.size ty_string 1 sk (es.map ecell) → Owns h' h.size ty_api_Ref 3 sr (rfvs es) → Owns h' h.size ty_int 1 sa ((posL es es.length).map icell) → Q sk sr sp sa h') :
    CallF PG fn_btree_read [.agg #[.int .i64 kind, sval sp, sval sd]] (.tup [.agg [.sl, .sl, .sl], .leaf .sl]) h Q := by
  have hel := enc_len ok
  have lx := x.len
  rw [List.length_map] at lx
  refine call_btree_read (o_1 := sp) (o_2 := sd) (New.go fun h2 _ x2 z2 r2 => New.go fun h4 _ x4 z4 r4 => ?_)
  have r24 := x4.row' r2
  refine Ld.ints (row_at r24 rfl) (St.at1 (o := 2) (cs := [sval ⟨none, 0, 0⟩, sval ⟨none, 0, 0⟩, sval ⟨none, 0, 0⟩]) ⟨_, und_ints⟩ (by kernel_rfl) rfl rfl r4 (by show 2 < 3; decide) fun h6 u6 r6 => ?_)
  have x6 : Ext h.size h h6 := x2.after (x4.trans (u6.ext (Nat.le_refl _)))
  have r26 := u6.row r24 (by omega)
  refine Ld.words (row_at r26 rfl) ?_
  generalize hk3 : h2.size = k3 at *
  have hk3h : h.size ≤ k3 := by omega
  refine ⟨fun s n h' => ∃ i : Nat, n = ((enc (es.take i)).length : Int) ∧ i ≤ es.length ∧ Ext h.size h h' ∧ ∃ sk sr : Sl, h'[k3]? = some (.cells (ndcells sk sr sp).toArray ty_btree_node (0, 0)) ∧ Owns h' h.size ty_string 1 sk ((es.take i).map ecell) ∧ Owns h' h.size ty_api_Ref 3 sr (rfvs (es.take i)) ∧ Owns h' h.size ty_int 1 s ((posL es i).map icell),
    fun _ n _ => ((enc es).length - n).toNat, ⟨0, rfl, Nat.zero_le _, x6, ⟨none, 0, 0⟩, ⟨none, 0, 0⟩, r6, Owns.nil _ _ _ _, Owns.nil _ _ _ _, Owns.nil _ _ _ _⟩, ?_⟩
  rintro _ s11 _ h13 ⟨i, rfl, hi, x13, sk, sr, r13, ok13, or13, oa13⟩
  have hle := enc_le_len es i
  refine Br.mk (fun hlt => ?_) fun hge => ?_
  · have hlt : (enc (es.take i)).length < (enc es).length := by simp at hlt; omega
    have hlt2 : i < es.length := by
      rcases Nat.lt_or_ge i es.length with h1 | h1
      · exact h1
      · rw [List.take_of_length_le h1] at hlt; omega
    obtain ⟨e, he⟩ : ∃ e, es[i]? = some e := ⟨_, List.getElem?_eq_getElem hlt2⟩
    have eok := ok e (List.mem_of_getElem? he)
    have hsz := eok.key
    have hnext : (enc (es.take (i + 1))).length = (enc (es.take i)).length + (encE e).length := by rw [enc_take he, List.length_append]
    have hnle := enc_le_len es (i + 1)
    have hE := encE_len e
    have hB13 := x13.size
    have hpos : refAt es i = (enc (es.take i)).length + (1 + (e.1.size + 3) / 4) := by unfold refAt; rw [he]
    generalize hp : (enc (es.take i)).length = p at *
    generalize hm : (e.1.size + 3) / 4 = m at *
    have g0 : (enc es)[p]? = some e.1.size := by
      have := enc_get (j := 0) he (v := e.1.size) (by rfl)
      rw [hp, Nat.add_zero] at this; exact this
    refine (x.ext x13).get (v := wcell e.1.size) (by rw [List.getElem?_map, g0]; rfl) fun ad ha hc => ?_
    rw [nat_mul, Nat.mul_one]
    refine Ld.w hc ?_
    rw [i64_nat (m := e.1.size) (by omega)]
    refine make_full (v := bcell 0) (n := e.1.size) (bytes := 1) und_bytes (by kernel_rfl) (by kernel_rfl) (by omega) (by omega) fun h17 o17 x17 => ?_
    have x17' : Ext h.size h h17 := x13.trans (x17.less hB13)
    have zl : e.1.toList.length = e.1.size := size_list _
    refine ⟨fun n h' => ∃ k : Nat, n = (k : Int) ∧ k ≤ e.1.size ∧ Ext h13.size h13 h' ∧ Owns h' h13.size ty_uint8 1 ⟨some ⟨h13.size, 0, none⟩, e.1.size, e.1.size⟩ ((e.1.toList.take k).map bcell ++ List.replicate (e.1.toList.length - k) (bcell 0)), fun n _ => ((e.1.size : Int) - n).toNat,
      ⟨0, rfl, Nat.zero_le _, x17, by rw [zl]; exact o17⟩, ?_⟩
    rintro _ _ h22 ⟨k, rfl, hk, x22, o22⟩
    have x22' : Ext h.size h h22 := x13.trans (x22.less hB13)
    refine Br.mk (fun hlt3 => ?_) fun hge3 => ?_
    · have hlt3 : k < e.1.size := by simp at hlt3; omega
      obtain ⟨b, hb⟩ : ∃ b, e.1.toList[k]? = some b := ⟨_, List.getElem?_eq_getElem (by omega)⟩
      obtain ⟨v, hv1, hv2, hv3⟩ := kw_at hb
      have e1 : IntKind.i64.wrap (IntKind.i64.wrap ((p : Int) + 1) + IntKind.i64.wrap ((k : Int).tdiv 4)) = ((p + (1 + k / 4) : Nat) : Int) := by
        rw [wrap_succ (by omega), show (k : Int).tdiv 4 = ((k / 4 : Nat) : Int) from rfl, i64_nat (by omega), i64_add (by omega)]
        congr 1; omega
      rw [e1]
      have g1 : (enc es)[p + (1 + k / 4)]? = some v := by
        rw [← hp]
        refine enc_get he ?_
        rw [encE_split, List.getElem?_append_left (by rw [List.length_cons, kw_len, zl]; omega), Nat.add_comm 1, List.getElem?_cons_succ]
        exact hv1
      refine (x.ext x22').get (v := wcell v) (by rw [List.getElem?_map, g1]; rfl) fun ad ha hc => ?_
      rw [nat_mul, Nat.mul_one]
      refine Ld.w hc ?_
      have e2 : IntKind.i64.wrap (8 * (k : Int).tmod 4) = ((8 * (k % 4) : Nat) : Int) := by
        rw [show (k : Int).tmod 4 = ((k % 4 : Nat) : Int) from rfl]
        exact i64_cast (by omega) (by omega)
      rw [e2, byte_of (by omega) hv3]
      refine chk_t (by simp; omega) (Idx.mk (len := e.1.size) rfl hlt3 ?_)
      rw [Int.toNat_natCast]
      refine Owns.store1 ⟨_, und_u8⟩ (by kernel_rfl) o22 (by rw [List.length_append, List.length_map, List.length_take, List.length_replicate]; omega) rfl rfl rfl fun h26 o26 u26 => ?_
      rw [wrap_succ (by omega)]
      refine ⟨⟨k + 1, rfl, hlt3, x22.trans (u26.ext (Nat.le_refl _)), ?_⟩, meas hlt3 (by decide)⟩
      rw [← set_next hb]
      exact o26
    · have hge3 : k = e.1.size := by simp at hge3; omega
      subst hge3
      rw [List.take_of_length_le (by omega), show e.1.toList.length - e.1.size = 0 by omega, List.replicate_zero, List.append_nil] at o22
      have e3 : IntKind.i64.wrap ((p : Int) + IntKind.i64.wrap (1 + IntKind.i64.wrap ((IntKind.i64.wrap ((e.1.size : Int) + 3)).tdiv 4))) = ((p + (1 + m) : Nat) : Int) := by
        rw [i64_cast (n := (e.1.size : Int) + 3) (m := e.1.size + 3) (by omega) (by omega), show (((e.1.size + 3 : Nat) : Int)).tdiv 4 = (((e.1.size + 3) / 4 : Nat) : Int) from rfl, hm, i64_nat (by omega), i64_cast (n := 1 + (m : Int)) (m := 1 + m) (by omega) (by omega), i64_add (by omega)]
      have e4 : IntKind.i64.wrap (((p + (1 + m) : Nat) : Int) + 4) = ((p + (1 + m) + 4 : Nat) : Int) := i64_cast (by omega) (by omega)
      rw [e3, e4]
      refine x.part (a := p + (1 + m)) (n := 4) (by rw [List.length_map]; omega) fun s27 y27 => ?_
      have ecut : (((enc es).map wcell).drop (p + (1 + m))).take 4 = (encR e.2).map wcell := by
        rw [← List.map_drop, ← List.map_take]
        congr 1
        rw [← List.drop_drop, ← hp, enc_drop he, encE_split, List.append_assoc, List.drop_append, List.drop_of_length_le (by rw [List.length_cons, kw_len, zl]; omega), List.length_cons, kw_len, zl, show 1 + m - ((e.1.size + 3) / 4 + 1) = 0 by omega]
        rfl
      rw [ecut] at y27
      have r22 := x22.row' r13
      refine Ld.strs (row_cell r22 rfl) ?_
      refine read_bytes (l := e.1.toList) zl.symm (fun j b hb => Owns.cells o22 rfl j (bcell b) (by rw [List.getElem?_map, hb]; rfl)) ?_
      have es1 : (⟨e.1.toList.toArray⟩ : ByteArray) = e.1 := by
        rw [toList_data]
      rw [es1]
      have ok22 := ok13.ext x22
      have or22 := or13.ext x22
      have oa22 := oa13.ext x22
      have hB22 := x22'.size
      have lk := Owns.len1 ok22
      rw [List.length_map, List.length_take] at lk
      refine put_new (news := [ecell e]) (bytes := 16) und_strs info_s (by decide) ok22 rfl (by simp [ecell, Value.oneCell']) (by omega) hB22 fun s32 h33 l33 o33 g33 => ?_
      have r33 := g33.row ok22 r22 (by decide)
      have or33 := or22.grown ok22 (by decide) g33
      have oa33 := oa22.grown ok22 (by decide) g33
      have x33 : Ext h.size h h33 := x22'.trans (ok22.grownExt hB22 g33)
      refine St.at1 (o := 0) ⟨_, und_strs⟩ (by kernel_rfl) rfl rfl r33 (by show 0 < 3; decide) fun h34 u34 r34 => ?_
      have x34 : Ext h.size h h34 := x33.trans (u34.ext hk3h)
      have or34 := or33.updT u34 r33 (by decide)
      have oa34 := oa33.updT u34 r33 (by decide)
      have ok34 := o33.updT u34 r33 (by decide)
      have y34 := y27.ext x34
      refine Ld.refs (row_at r34 rfl) ?_
      refine y34.get (i := 0) (v := wcell (e.2.ser % 4294967296)) rfl fun _ _ c0 => Ld.w c0 ?_
      refine y34.get (i := 1) (v := wcell (e.2.ser / 4294967296)) rfl fun _ _ c0 => Ld.w c0 ?_
      refine y34.get (i := 2) (v := wcell e.2.pos) rfl fun _ _ c0 => Ld.w c0 ?_
      refine y34.get (i := 3) (v := wcell e.2.len) rfl fun _ _ c0 => Ld.w c0 ?_
      obtain ⟨b1, b2, b3⟩ := eok.ref
      rw [ser_eq b1, i64_nat (m := e.2.pos) (by omega), i64_nat (m := e.2.len) (by omega)]
      have hB34 := x34.size
      have lr := or34.1
      rw [rfvs_len, List.length_take] at lr
      refine New.go fun h45 _ x45 z45 r45 => ?_
      have r345 := x45.row' r34
      refine ⟨Ld.refs (row_at r345 rfl) rfl, ?_⟩
      refine put_box (h := h34) (news := rfv e.2) (bytes := 24) und_refs info_ref (by decide) or34 x45 r45 (Nat.le_refl _) rfl (by intro u hu; simp only [rfv, rfcells, List.mem_cons, List.not_mem_nil, or_false] at hu; rcases hu with rfl | rfl | rfl <;> rfl) (by omega) hB34 fun s47 h48 l47 o48 g48 => ?_
      have r48 := g48.row or34 r34 (by decide)
      have ok48 := ok34.grown or34 (by decide) g48
      have oa48 := oa34.grown or34 (by decide) g48
      have x48 : Ext h.size h h48 := x34.trans (or34.grownExt hB34 g48)
      refine St.at1 (o := 1) ⟨_, und_refs⟩ (by kernel_rfl) rfl rfl r48 (by show 1 < 3; decide) fun h49 u49 r49 => ?_
      have x49 : Ext h.size h h49 := x48.trans (u49.ext hk3h)
      have or49 := o48.updT u49 r48 (by decide)
      have oa49 := oa48.updT u49 r48 (by decide)
      have ok49 := ok48.updT u49 r48 (by decide)
      have hB49 := x49.size
      have la := Owns.len1 oa49
      rw [List.length_map] at la
      have lp : (posL es i).length = i := by simp [posL]
      refine put_new (news := [icell (p + (1 + m))]) (bytes := 8) und_ints info_i (by decide) oa49 rfl (by simp [icell, Value.oneCell']) (by omega) hB49 fun s52 h53 l52 o53 g53 => ?_
      have r53 := g53.row oa49 r49 (by decide)
      have ok53 := ok49.grown oa49 (by decide) g53
      have or53 := or49.grown oa49 (by decide) g53
      have x53 : Ext h.size h h53 := x49.trans (oa49.grownExt hB49 g53)
      refine ⟨⟨i + 1, by rw [hnext]; omega, hlt2, x53, s32, s47, r53, ?_, ?_, ?_⟩, meas' hlt (by omega)⟩
      · rw [List.take_add_one, he, List.map_append]; exact ok53
      · rw [List.take_add_one, he, rfvs_app]
        have : rfvs [e] = rfv e.2 := by simp [rfvs]
        show Owns h53 h.size ty_api_Ref 3 s47 (rfvs (es.take i) ++ rfvs [e])
        rw [this]; exact or53
      · rw [posL_succ, hpos, List.map_append]; exact o53
  · have hge : i = es.length := by
      simp at hge
      rcases Nat.lt_or_ge i es.length with h1 | h1
      · exfalso
        obtain ⟨e, he⟩ : ∃ e, es[i]? = some e := ⟨_, List.getElem?_eq_getElem h1⟩
        have := enc_get (j := 0) he (v := e.1.size) (by rfl)
        have := (List.getElem?_eq_some_iff.1 this).1
        omega
      · omega
    subst hge
    rw [List.take_of_length_le (Nat.le_refl _)] at ok13 or13
    refine Ld.node (Cells.whole r13) (St.all und_node rfl (vs := ndcells sk sr sp) sz_node (by intro u hu; simp only [ndcells, List.mem_cons, List.not_mem_nil, or_false] at hu; rcases hu with rfl | rfl | rfl <;> rfl) r13 rfl fun h57 u57 r57 => ?_)
    refine Ld.node (Cells.whole r57) (q sk sr s11 h57 (x13.trans (u57.ext hk3h)) (ok13.updT u57 r13 (by decide)) (or13.updT u57 r13 (by decide)) (oa13.updT u57 r13 (by decide)))
end
end Go.Dn.W
