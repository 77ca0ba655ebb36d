/- Leaves: find, insert; the root kept. -/
import Derived.Test.YtbipdjmdacelkaaGreatDnTr
set_option linter.unusedVariables false
namespace Go.Dn.W
open Go Go.Dn Go.Proofs
theorem one_rf {r : Rf} : ∀ u ∈ rfv r, u.oneCell' = true := by
  intro u hu
  simp only [rfv, rfcells, List.mem_cons, List.not_mem_nil, or_false] at hu
  rcases hu with rfl | rfl | rfl <;> rfl
theorem rfvs_take : ∀ (es : List En) (i : Nat), (rfvs es).take (i * 3) = rfvs (es.take i)
  | [], i => by simp [rfvs]
  | e :: es, 0 => by simp [rfvs]
  | e :: es, i + 1 => by
    have := rfvs_take es i
    have h1 : rfvs (e :: es) = rfv e.2 ++ rfvs es := by simp [rfvs]
    rw [h1, List.take_append, List.take_of_length_le (by show 3 ≤ _; omega), show (i + 1) * 3 - (rfv e.2).length = i * 3 by show (i + 1) * 3 - 3 = _; omega, this]
    simp [rfvs]
theorem rfvs_drop : ∀ (es : List En) (i : Nat), (rfvs es).drop (i * 3) = rfvs (es.drop i)
  | [], i => by simp [rfvs]
  | e :: es, 0 => by simp [rfvs]
  | e :: es, i + 1 => by
    have := rfvs_drop es i
    have h1 : rfvs (e :: es) = rfv e.2 ++ rfvs es := by simp [rfvs]
    rw [h1, List.drop_append, List.drop_of_length_le (by show 3 ≤ _; omega), show (i + 1) * 3 - (rfv e.2).length = i * 3 by show (i + 1) * 3 - 3 = _; omega, this]
    simp [rfvs]
theorem rfvs_ins (es : List En) (i : Nat) (e : En) : (rfvs es).take (i * 3) ++ rfv e.2 ++ (rfvs es).drop (i * 3) = rfvs (insE es i e) := by
  rw [rfvs_take, rfvs_drop]
  unfold insE
  rw [rfvs_app, show rfvs (e :: es.drop i) = rfv e.2 ++ rfvs (es.drop i) by simp [rfvs]]
  simp
theorem ecell_ins (es : List En) (i : Nat) (e : En) : (es.map ecell).take (i * 1) ++ [ecell e] ++ (es.map ecell).drop (i * 1) = (insE es i e).map ecell := by
  unfold insE
  simp [List.map_take, List.map_drop]
theorem icell_ins (l : List Nat) (i k : Nat) : (l.map icell).take (i * 1) ++ [icell k] ++ (l.map icell).drop (i * 1) = (insK l i k).map icell := by
  unfold insK
  simp [List.map_take, List.map_drop]
section
variable {h : Mem} {ka : Nat} {A : Ar} {s1 s2 s3 : Sl} {es : List En} {kids : List Nat}
theorem ct_find {k : Nat} {key : ByteArray} {Q : Int → Bool → Mem → Prop} (rk : h[k]? = some (.cells (ndcells s1 s2 s3).toArray ty_btree_node (0, 0))) (x : Els h s1 (es.map ecell)) (st : Srt es) (hn : es.length ≤ 1000) (q : ∀ n, PlE es key n → Q (n : Int) (hit es key n) h) :
    CallF PG fn_btree_leaf_find [.pointer (some ⟨k, 0, none⟩), .string key] (.tup [.leaf (.int .i64), .leaf .bool]) h Q := by
  refine call_btree_leaf_find ?_
  show Ld _ _ _ _ _ _
  exact Ld.strs (row_cell rk rfl) (ct_search x st (by omega) q)
theorem call_insS {s v : Sl} {i : Int} {Q : Sl → Mem → Prop} (hw : InsWp ty_sl_string 1 fn_slices_overlaps_string_ fn_slices_rotateRight_string_ s i v h Q) : CallF PG fn_slices_Insert_string_string_ [.slice s.a s.len s.cap, .int .i64 i, .slice v.a v.len v.cap] (.one (.leaf .sl)) h Q := call_slices_Insert_string_string_ hw
theorem call_insR {s v : Sl} {i : Int} {Q : Sl → Mem → Prop} (hw : InsWp ty_sl_api_Ref 3 fn_slices_overlaps_api_Ref_ fn_slices_rotateRight_api_Ref_ s i v h Q) : CallF PG fn_slices_Insert_api_Ref_api_Ref_ [.slice s.a s.len s.cap, .int .i64 i, .slice v.a v.len v.cap] (.one (.leaf .sl)) h Q := call_slices_Insert_api_Ref_api_Ref_ hw
theorem call_insI {s v : Sl} {i : Int} {Q : Sl → Mem → Prop} (hw : InsWp ty_sl_int 1 142 fn_slices_rotateRight_int_ s i v h Q) : CallF PG fn_slices_Insert_int_int_ [.slice s.a s.len s.cap, .int .i64 i, .slice v.a v.len v.cap] (.one (.leaf .sl)) h Q := call_slices_Insert_int_int_ hw
theorem ct_insert {k i B : Nat} {e : En} {Q : Mem → Prop} (rk : h[k]? = some (.cells (ndcells s1 s2 s3).toArray ty_btree_node (0, 0))) (hB : B ≤ h.size) (o1 : Owns h B ty_string 1 s1 (es.map ecell)) (o2 : Owns h B ty_api_Ref 3 s2 (rfvs es)) (hi : i ≤ es.length) (hn : es.length ≤ 1000)
    (q : ∀ s1' s2' h', h.size ≤ h'.size → (∀ j, j < h.size → j ≠ k → (∀ a, s1.a = some a → j ≠ a.block) → (∀ a, s2.a = some a → j ≠ a.block) → h'[j]? = h[j]?) → h'[k]? = some (.cells (ndcells s1' s2' s3).toArray ty_btree_node (0, 0)) →
      Owns h' B ty_string 1 s1' ((insE es i e).map ecell) → Owns h' B ty_api_Ref 3 s2' (rfvs (insE es i e)) → Q h') :
    CallF PG fn_btree_leaf_insert [.pointer (some ⟨k, 0, none⟩), .int .i64 (i : Int), .string e.1, .agg #[.int .u64 (e.2.ser : Int), .int .i64 (e.2.pos : Int), .int .i64 (e.2.len : Int)]] (.tup []) h Q := by
  have l1 := Owns.len1 o1
  rw [List.length_map] at l1
  have l2 := (Owns.elsR o2).len
  have hk := row_lt rk
  refine call_btree_leaf_insert (New.go fun h2 _ x2 z2 r2 => ?_)
  have rk2 := x2.row' rk
  show Ld _ _ _ _ _ _
  refine Ld.strs (row_cell rk2 rfl) (New.go fun h6 _ x6 z6 r6 => ?_)
  have rk6 := x6.row' rk2
  have r26 := x6.row' r2
  have x06 : Ext h.size h h6 := x2.after x6
  have o16 := o1.ext x06
  have o26 := o2.ext x06
  have z06 := x06.size
  refine call_insS (s := s1) (v := ⟨some ⟨h2.size, 0, none⟩, 1, 1⟩) ?_
  refine ins_go (t := ty_sl_string) (e := ty_string) (z := 1) (bytes := 16) (fo := fn_slices_overlaps_string_) (fr := fn_slices_rotateRight_string_) und_strs info_s (by decide) (by decide) apart_str (by omega) o16 (by omega) (by omega) r6 rfl (by simp [Value.oneCell']) oneKeys (fun a ha => by have := (o1.blk ha).2.1; omega) fun s7 h8 l8 o8 g8 pl8 => ?_
  rw [show [Value.string e.1] = [ecell e] from rfl, ecell_ins] at o8
  have rk8 := g8.row o16 rk6 (by decide)
  have r28 := g8.row o16 r26 (by decide)
  have o28 := o26.grown o16 (by decide) g8
  show St _ _ _ _ _ _
  refine St.at1 (o := 0) ⟨_, und_strs⟩ (by kernel_rfl) rfl rfl rk8 (by show 0 < 3; decide) fun h10 u10 r10 => ?_
  have r210 := u10.row r28 (by omega)
  have o10 := o8.updT u10 rk8 (by decide)
  have o210 := o28.updT u10 rk8 (by decide)
  have z8 := g8.size
  have z10 := u10.size
  show Ld _ _ _ _ _ _
  refine Ld.refs (row_at r10 rfl) (Ld.ref (Cells.whole r210) (New.go fun h17 _ x17 z17 r17 => ?_))
  have r17k := x17.row' r10
  refine ⟨Ld.refs (row_at r17k rfl) rfl, ?_⟩
  refine call_insR (s := s2) (v := ⟨some ⟨h10.size, 0, none⟩, 1, 1⟩) ?_
  have o217 := o210.ext x17
  refine ins_go (t := ty_sl_api_Ref) (e := ty_api_Ref) (z := 3) (bytes := 24) (ns := rfv e.2) (fo := fn_slices_overlaps_api_Ref_) (fr := fn_slices_rotateRight_api_Ref_) und_refs info_ref (by decide) (by decide) apart_ref (by omega) o217 (by omega) (by omega) r17 rfl one_rf rfvs_one (fun a ha => by have := (o2.blk ha).2.1; omega) fun s19 h20 l20 o20 g20 pl20 => ?_
  rw [rfvs_ins] at o20
  have rk20 := g20.row o217 r17k (by decide)
  have o120 := (o10.ext x17).grown o217 (by decide) g20
  show St _ _ _ _ _ _
  refine St.at1 (o := 1) ⟨_, und_refs⟩ (by kernel_rfl) rfl rfl rk20 (by show 1 < 3; decide) fun h22 u22 r22 => ?_
  have z20 := g20.size
  have z22 := u22.size
  refine q s7 s19 h22 (by omega) (fun j hj hk hs1 hs2 => ?_) r22 (o120.updT u22 rk20 (by decide)) (o20.updT u22 rk20 (by decide))
  rw [u22.block j hk, g20.block j (by omega) hs2, x17.block j (by omega), u10.block j hk, g8.block j (by omega) hs1, x06.block j hj]
theorem ct_root {kf l r : Nat} {e : En} {Q : Int → Int → Mem → Prop} (f : FoAt h kf ka A) (hr : r ≠ 0 → A.objs l = true ∧ l ≤ 4294967295 ∧ A.objs r = true ∧ r ≤ 4294967295 ∧ e.Ok)
    (q0 : r = 0 → ∀ h', FoAt h' kf ka A → ArX ka h.size h h' → Q (l : Int) 0 h') (q1 : A.most < A.w.length + 30 → ∀ h', FoAt h' kf ka A → ArX ka h.size h h' → Q 0 3 h')
    (q2 : r ≠ 0 → (ndObj [e] [l, r]).Ok A → A.w.length + (ndObj [e] [l, r]).size ≤ A.most → ∀ h', FoAt h' kf ka (A.add (ndObj [e] [l, r])) → ArX ka h.size h h' → Q (A.w.length : Int) 0 h') :
    CallF PG fn_btree_Forest_root [.pointer (some ⟨kf, 0, none⟩), .agg #[.int .i64 (l : Int), .int .i64 (r : Int), .string e.1, .int .u64 (e.2.ser : Int), .int .i64 (e.2.pos : Int), .int .i64 (e.2.len : Int)]] (.tup [.leaf (.int .i64), .leaf (.int .i64)]) h Q := by
  refine call_btree_Forest_root (New.go fun h2 _ x2 z2 r2 => ?_)
  refine Ld.i (row_at r2 rfl) (Br.mk (fun h0 => ?_) fun h0 => ?_)
  · refine Ld.i (row_cell r2 rfl) (q0 (by simp at h0; omega) h2 (f.ext x2) (f.a.arx x2))
  · have hr0 : r ≠ 0 := by simp at h0; omega
    obtain ⟨a1, a2, a3, a4, eok⟩ := hr hr0
    refine Ld.str (row_at r2 rfl) (New.go fun h7 _ x7 z7 r7 => ?_)
    have hc : Cells h7 ((⟨h.size, 0, none⟩ : Addr).add 3) (rfv e.2) := by
      rw [add_off, Nat.zero_add]
      refine Cells.row (x7.row' r2) fun i v hv => ?_
      match i, hv with
      | 0, hv => exact hv
      | 1, hv => exact hv
      | 2, hv => exact hv
    refine Ld.ref hc (New.go fun h12 _ x12 z12 r12 => ?_)
    have r212 := x12.row' (x7.row' r2)
    refine Ld.i (row_cell r212 rfl) (Ld.i (row_at r212 rfl) (New.go fun h16 _ x16 z16 r16 => ?_))
    have x := x2.after (x7.after (x12.after x16))
    have e1 : Els h16 ⟨some ⟨h2.size, 0, none⟩, 1, 1⟩ ([e].map ecell) := Els.one (x16.row' (x12.row' r7))
    have e2 : ElsR h16 ⟨some ⟨h7.size, 0, none⟩, 1, 1⟩ [e] := ⟨rfl, fun i f hf => by
      match i, hf with
      | 0, hf => cases hf; exact ⟨_, rfl, Cells.whole (x16.row' r12)⟩
      | i + 1, hf => simp at hf, (fun hn => by cases hn), Nat.le_refl _⟩
    have e3 : Els h16 ⟨some ⟨h12.size, 0, none⟩, 2, 2⟩ ([l, r].map icell) := ⟨rfl, fun i v hv => ⟨_, rfl, row_at r16 (by simpa [icell] using hv)⟩, (fun hn => by cases hn), Nat.le_refl _⟩
    have sz := x2.size
    have n16 : NdE h16 ka ⟨some ⟨h2.size, 0, none⟩, 1, 1⟩ ⟨some ⟨h7.size, 0, none⟩, 1, 1⟩ ⟨some ⟨h12.size, 0, none⟩, 2, 2⟩ [e] [l, r] :=
      ⟨e1, e2, e3, fun a ha => by cases ha; exact f.a.safe x (by show _ ≤ h2.size; omega) (by show h2.size < _; omega), fun a ha => by cases ha; exact f.a.safe x (by show _ ≤ h7.size; omega) (by show h7.size < _; omega), fun a ha => by cases ha; exact f.a.safe x (by show _ ≤ h12.size; omega) (by show h12.size < _; omega)⟩
    have ok : NdOk A [e] [l, r] := ⟨by simpa using eok, by simp, by simp; exact ⟨⟨a1, a2⟩, a3, a4⟩, by simp⟩
    have hel := enc_len ok.ents
    have ax : ArX ka h.size h h16 := f.a.arx x
    refine ct_keep (f.ext x) n16 ok (fun hb h' f' a' => q1 ?_ h' f' (ax.after a')) fun hb h' f' a' => q2 hr0 ok.obj hb h' f' (ax.after a')
    have h1 : (1 : Nat) + [l, r].length + (enc [e]).length ≤ 24 := by show 1 + 2 + _ ≤ 24; have : (enc [e]).length ≤ 21 * 1 := hel; omega
    omega
end
end Go.Dn.W
