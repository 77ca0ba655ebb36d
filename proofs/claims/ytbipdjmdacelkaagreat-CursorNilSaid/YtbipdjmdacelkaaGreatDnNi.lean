/- Cursors: the first line of the laws; a nil cursor. -/
import Derived.Test.YtbipdjmdacelkaaGreatDnEq
import Derived.Test.YtbipdjmdacelkaaGreatDnPi
set_option linter.unusedVariables false
namespace Go.Dn.W
open Go Go.Dn Go.Proofs

theorem updL_self {L : Nat → List En} {i : Nat} {l : List En} : updL L i l i = l := by unfold updL; rw [if_pos rfl]
theorem insL_nil (e : En) : insL [] e = [e] := by simp [insL]
section
variable {h : Mem}
theorem enA_ok {k : ByteArray} {r : Rf} (h1 : 1 ≤ k.size) (h2 : k.size ≤ 64) (h3 : r.ser ≤ 18446744073709551615) (h4 : r.pos ≤ 65536) (h5 : r.len ≤ 4096) : En.Ok (k, r) := ⟨h2, h1, h3, h4, h5⟩
theorem within_emp (k : ByteArray) : within emp emp k = true := by
  unfold within
  rw [sLt_or, sLt_empty, sEq_self]; rfl
theorem ct_awake18 {Q : Bool → Mem → Prop} (q : ∀ h', Ext h.size h h' → Q true h') : CallF PG fn_dunnagelaw18_awake [] (.one (.leaf .bool)) h Q := by
  refine call_dunnagelaw18_awake (ct_btreeNew (n := 4096) (by decide) (by decide) fun kf ka h3 x3 hkf f3 an3 => ?_)
  have ok : En.Ok (ByteArray.mk #[97], ⟨1, 0, 0⟩) := enA_ok (by decide) (by decide) (by show 1 ≤ _; omega) (by show 0 ≤ _; omega) (by show 0 ≤ _; omega)
  refine ct_Put (D := 0) (e := (ByteArray.mk #[97], ⟨1, 0, 0⟩)) (root := 0) f3 (by decide) ok (Nat.le_refl _) (by show 0 + 1 < 2 * 4 ^ 1; decide) (by show 1 + 180 * 1 + 30 ≤ 4096; decide) fun h5 A5 f5 _ _ a5 => ?_
  have z3 := x3.size
  obtain ⟨an5, x5⟩ := an3.arx a5 z3
  have z5 := a5.size
  refine ct_cursorNew (root := 0) (by decide) fun h8 x8 c8 z8 => Br.t rfl (Br.t rfl ?_)
  have f8 := f5.ext x8
  refine ct_First f8 c8 (by decide) fun h13 f13 c13 t13 => ?_
  have hs : (Cu.up (updL (fun _ => []) 0 (insL [] (ByteArray.mk #[97], ⟨1, 0, 0⟩))) (⟨0, emp, emp, false, emp⟩ : Cu) emp).st = true := by
    unfold Cu.up Cu.at'
    dsimp only
    rw [updL_self, insL_nil, within_emp, seekL_hd (by rw [sLt_irrefl]; exact sLt_empty _)]
    rfl
  rw [hs]
  exact q h13 ((x3.trans x5).trans ((x8.less (by omega)).trans (t13.low (by omega) (by omega))))

/-! ### a nil cursor -/
theorem nil_First {Q : Bool → Mem → Prop} (q : Q false h) : CallF PG fn_cursor_Cursor_First [.pointer none] (.one (.leaf .bool)) h Q := call_cursor_Cursor_First (Br.f rfl q)
theorem nil_Last {Q : Bool → Mem → Prop} (q : Q false h) : CallF PG fn_cursor_Cursor_Last [.pointer none] (.one (.leaf .bool)) h Q := call_cursor_Cursor_Last (Br.f rfl q)
theorem nil_Seek {k : ByteArray} {Q : Bool → Mem → Prop} (q : Q false h) : CallF PG fn_cursor_Cursor_Seek [.pointer none, .string k] (.one (.leaf .bool)) h Q := call_cursor_Cursor_Seek (Br.f rfl q)
theorem nil_Next {Q : Bool → Mem → Prop} (q : Q false h) : CallF PG fn_cursor_Cursor_Next [.pointer none] (.one (.leaf .bool)) h Q := call_cursor_Cursor_Next (Br.f rfl q)
theorem nil_Prev {Q : Bool → Mem → Prop} (q : Q false h) : CallF PG fn_cursor_Cursor_Prev [.pointer none] (.one (.leaf .bool)) h Q := call_cursor_Cursor_Prev (Br.f rfl q)
theorem nil_Entry {Q : ByteArray → Int → Int → Int → Bool → Mem → Prop} (q : ∀ h', Ext h.size h h' → Q emp 0 0 0 false h') : CallF PG fn_cursor_Cursor_Entry [.pointer none] (.tup [.agg [.str, .int .u64, .int .i64, .int .i64], .leaf .bool]) h Q := by
  refine call_cursor_Cursor_Entry (New.go fun h2 _ x2 z2 r2 => ⟨fun b h' => b = true ∧ h' = h2, ?_, Br.t rfl ⟨rfl, rfl⟩⟩)
  rintro _ _ h6 ⟨rfl, rfl⟩
  refine Br.t rfl (St.all und_en rfl (vs := encells en0) sz_en one_en r2 rfl fun h7 u7 r7 => Ld.en (e := en0) (Cells.whole r7) ?_)
  exact q h7 (x2.trans (u7.ext (Nat.le_refl _)))
theorem nil_steps_1 {k : Nat} {y : Value} {Q : Mem → Prop} (r : h[k]? = some (.cells #[.pointer none] ty_ptr_cursor_Cursor (0, 0))) (q : Q h) : CallF PG fn_cursor_Cursor_steps_1 [y, .pointer (some ⟨k, 0, none⟩)] (.tup []) h Q := by
  refine call_cursor_Cursor_steps_1 ⟨fun h' => h' = h, fun _ => 0, rfl, ?_⟩
  rintro _ _ rfl
  show Ld _ _ _ _ _ _
  exact Ld.pc (row_cell r rfl) (nil_Next (Br.f rfl q))
theorem nil_Rest_1 {k : Nat} {y : Value} {Q : Mem → Prop} (r : h[k]? = some (.cells #[.pointer none] ty_ptr_cursor_Cursor (0, 0))) (q : ∀ h', Ext h.size h h' → Q h') : CallF PG fn_cursor_Cursor_Rest_1 [y, .pointer (some ⟨k, 0, none⟩)] (.tup []) h Q := by
  refine call_cursor_Cursor_Rest_1 (New.go fun h5 _ x5 z5 r5 => ?_)
  show Ld _ _ _ _ _ _
  refine Ld.pc (row_cell (x5.row' r) rfl) (call_cursor_Cursor_steps (New.go fun h9 _ x9 z9 r9 => ?_))
  refine range_full 0 (fun _ => []) (fun _ _ _ _ _ _ => False) (fun i h' => Inv h9 h9.size h') (fun l rl Y i hi => absurd hi (Nat.not_lt_zero _)) (fun h1 x z d => .start x z d) (fun i h1 h2 x u => x.upd u) (fun i h1 h2 x e => x.ext e) (fun J h1 y0 j0 jI jE call => ?_) (fun i h2 o o' _ _ _ _ hi => absurd hi (Nat.not_lt_zero _)) fun h4 x => ⟨x.mark, ?_⟩
  · have i0 := jI _ _ j0
    exact enterV_bound (first := []) (bound := [.pointer (some ⟨h5.size, 0, none⟩)]) (by kernel_rfl) (nil_steps_1 (i0.row r9 (by omega)) j0)
  · exact q _ (x5.trans ((x9.less x5.size).trans (x.out (by have := x5.size; omega) (by have := x5.size; have := x9.size; omega))))
theorem nil_rest {n : Nat} {Q : Sl → Bool → Mem → Prop} (q : ∀ h', Ext h.size h h' → Q ⟨none, 0, 0⟩ true h') : CallF PG fn_dunnagelaw18_rest [.pointer none, .int .i64 (n : Int)] (.tup [.leaf .sl, .leaf .bool]) h Q := by
  refine call_dunnagelaw18_rest (New.go fun h2 _ x2 z2 r2 => call_cursor_Cursor_Rest (New.go fun h4 _ x4 z4 r4 => .inr ⟨⟨_, _, _, rfl⟩, Br.f rfl (New.go fun h7 _ x7 z7 r7 => ?_)⟩))
  refine range_full 0 (fun _ => []) (fun _ _ _ _ _ _ => False) (fun i h' => Inv h7 h7.size h') (fun l rl Y i hi => absurd hi (Nat.not_lt_zero _)) (fun h1 x z d => .start x z d) (fun i h1 h2 x u => x.upd u) (fun i h1 h2 x e => x.ext e) (fun J h1 y0 j0 jI jE call => ?_) (fun i h2 o o' _ _ _ _ hi => absurd hi (Nat.not_lt_zero _)) fun h4' x => ?_
  · have i0 := jI _ _ j0
    exact enterV_bound (first := []) (bound := [.pointer (some ⟨h2.size, 0, none⟩)]) (by kernel_rfl) (nil_Rest_1 (i0.row (x7.row' r4) (by omega)) fun h' x' => jE _ _ _ j0 x')
  · have z2' := x2.size
    have z4' := x4.size
    have z7' := x7.size
    refine Ld.ens (v := ⟨none, 0, 0⟩) (row_cell (x.row r7 (by omega)) rfl) ⟨x.mark, ?_⟩
    exact q _ (x2.trans ((x4.trans (x7.less z4')).less z2' |>.trans (x.out (by omega) (by omega))))
theorem eq_en0 {Q : Bool → Prop} (q : Q true) : EqP PG BinOp.eql ty_api_Entry (.agg #[.string emp, .int .u64 0, .int .i64 0, .int .i64 0]) (.agg #[.string emp, .int .u64 0, .int .i64 0, .int .i64 0]) Q := by
  exact en_eq_self q
/-- the statement: a nil forest, a nil cursor -/
theorem law_CursorNil {key : ByteArray} {root : Int} {Q : Bool → Mem → Prop} (_ : key.size ≤ 140737488351232) (_ : -9223372036854775808 ≤ root ∧ root ≤ 9223372036854775807) (q : ∀ h', Ext h.size h h' → Q true h') : wp_dunnagelaw18_CursorNil key root h Q := by
  refine nil_Entry fun h6 x6 => New.go fun h8 _ x8 z8 r8 => ?_
  refine St.all und_en rfl (vs := encells en0) sz_en one_en r8 rfl fun h9 u9 r9 => ?_
  have x9 : Ext h6.size h6 h9 := x8.trans (u9.ext (Nat.le_refl _))
  refine nil_rest (n := 3) fun h12 x12 => call_cursor_New (Br.t rfl ?_)
  refine ct_awake18 fun h17 x17 => ?_
  have r17 := x17.row' (x12.row' r9)
  have fin := q h17 (x6.after (x9.after (x12.after x17)))
  refine ⟨fun b h' => b = true ∧ h' = h17, fun _ b g1 hg => ?_, Br.t rfl ⟨rfl, rfl⟩⟩
  obtain ⟨rfl, e1⟩ := hg
  rw [e1]
  refine ⟨fun b h' => b = true ∧ h' = h17, fun _ b g1 hg => ?_, Br.t rfl ⟨rfl, rfl⟩⟩
  obtain ⟨rfl, e1⟩ := hg
  rw [e1]
  refine ⟨fun b h' => b = true ∧ h' = h17, fun _ b g1 hg => ?_, Br.t rfl (nil_First ⟨rfl, rfl⟩)⟩
  obtain ⟨rfl, e1⟩ := hg
  rw [e1]
  refine ⟨fun b h' => b = true ∧ h' = h17, fun _ b g1 hg => ?_, Br.t rfl (nil_Last ⟨rfl, rfl⟩)⟩
  obtain ⟨rfl, e1⟩ := hg
  rw [e1]
  refine Br.t rfl (nil_Seek (Br.t rfl (nil_Next (Br.t rfl (nil_Prev (Br.t rfl (Br.t rfl (Ld.en (e := en0) (Cells.whole r17) (eq_en0 (Br.t rfl (Br.t rfl ?_)))))))))))
  exact fin
end
end Go.Dn.W
