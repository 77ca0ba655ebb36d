/- Records of moves are written; the law's waking. -/
import Derived.Test.YtemelcaoepaoiaaDnPen
set_option linter.unusedVariables false
namespace Go.Dn.W
open Go Go.Dn Go.Proofs

def rcells (k q : Int) (s : Sl) (ms mf mt mn : Int) : List Value := [.int .i64 k, .int .u64 q, sval s, .int .u64 ms, .int .i64 mf, .int .i64 mt, .int .i64 mn]
theorem und_rec : ∃ d, PG.underlying ty_api_Record = some d := Option.isSome_iff_exists.1 (by kernel_rfl)
theorem agg_rec : isAggB PG ty_api_Record = true := by kernel_rfl
theorem sz_rec : szOf PG ty_api_Record = 7 := by kernel_rfl
theorem und_move : ∃ d, PG.underlying ty_api_Move = some d := Option.isSome_iff_exists.1 (by kernel_rfl)
theorem agg_move : isAggB PG ty_api_Move = true := by kernel_rfl
theorem sz_move : szOf PG ty_api_Move = 4 := by kernel_rfl
theorem und_wr : ∃ d, PG.underlying ty_3_func_ptr_batch_pen_api_Record = some d := Option.isSome_iff_exists.1 (by kernel_rfl)
theorem agg_wr : isAggB PG ty_3_func_ptr_batch_pen_api_Record = true := by kernel_rfl
theorem sz_wr : szOf PG ty_3_func_ptr_batch_pen_api_Record = 3 := by kernel_rfl
theorem und_changes : PG.underlying ty_sl_api_Change = some (.slice ty_api_Change) := by kernel_rfl
theorem agg_changes : isAggB PG ty_sl_api_Change = false := by kernel_rfl

section
variable {h : Mem}
theorem Ld.chs {a : Addr} {v : Sl} {K : Sl → Prop} (hc : cellAt h a = some (sval v)) (hk : K v) : Ld PG ty_sl_api_Change a (.one (.leaf .sl)) h K := Ld.cell (l := .sl) und_changes agg_changes hc hk
theorem Ld.rec {a : Addr} {k q : Int} {s : Sl} {ms mf mt mn : Int} {K : Int → Int → Sl → Int → Int → Int → Int → Prop} (hc : Cells h a (rcells k q s ms mf mt mn)) (hk : K k q s ms mf mt mn) :
    Ld PG ty_api_Record a (.one (.agg [.int .i64, .int .u64, .sl, .int .u64, .int .i64, .int .i64, .int .i64])) h K := by
  obtain ⟨t, hd⟩ := und_rec
  exact Ld.agg hd agg_rec sz_rec rfl hc ⟨k, .int _ k, q, .int _ q, s, .sl s.a s.len s.cap, ms, .int _ ms, mf, .int _ mf, mt, .int _ mt, mn, .int _ mn, hk⟩
theorem Ld.move {a : Addr} {ms mf mt mn : Int} {K : Int → Int → Int → Int → Prop} (hc : Cells h a [.int .u64 ms, .int .i64 mf, .int .i64 mt, .int .i64 mn]) (hk : K ms mf mt mn) :
    Ld PG ty_api_Move a (.one (.agg [.int .u64, .int .i64, .int .i64, .int .i64])) h K := by
  obtain ⟨t, hd⟩ := und_move
  exact Ld.agg hd agg_move sz_move rfl hc ⟨ms, .int _ ms, mf, .int _ mf, mt, .int _ mt, mn, .int _ mn, hk⟩

def wrs : List Value := [.nilFunc, .func (.func fn_batch_pen_batch) #[] #[], .func (.func fn_batch_pen_move) #[] #[]]
theorem ct_writers {Q : Value → Value → Value → Mem → Prop} (q : ∀ h', Ext h.size h h' → Q .nilFunc (.func (.func fn_batch_pen_batch) #[] #[]) (.func (.func fn_batch_pen_move) #[] #[]) h') : CallF PG fn_batch_writers [] (.one (.agg [.raw, .raw, .raw])) h Q := by
  obtain ⟨t, hd⟩ := und_wr
  refine call_batch_writers (New.go fun h1 _ x1 z1 r1 => ?_)
  refine St.row hd (vs := wrs) rfl sz_wr (by intro u hu; simp only [wrs, List.mem_cons, List.not_mem_nil, or_false] at hu; rcases hu with rfl | rfl | rfl <;> rfl) r1 (show 3 ≤ 3 by decide) fun h2 u2 r2 => ?_
  have r2 : h2[h.size]? = some (.cells wrs.toArray ty_3_func_ptr_batch_pen_api_Record (0, 0)) := r2
  exact Ld.agg hd agg_wr sz_wr rfl (Cells.whole (cs := wrs) r2) ⟨_, .raw _, _, .raw _, _, .raw _, q _ (x1.trans (u2.ext (Nat.le_refl _)))⟩
theorem pick2 {a b c : Value} {K : Value → Prop} (hk : K c) : PureT PG (Instr.index ty_3_func_ptr_batch_pen_api_Record (.agg #[a, b, c]) (.int .i64 2)) (.one (.leaf .raw)) K :=
  ⟨c, fun w => by kernel_rfl, [c], rfl, c, .raw _, hk⟩

theorem ct_May_move {s : Sl} {ms mf mt mn : Int} {Q : Bool → Mem → Prop} (hs : s.len = 0) (q : ∀ h', Ext h.size h h' → Q (pMove ms mf mt mn) h') :
    CallF PG fn_batch_May [.agg #[.int .i64 2, .int .u64 0, sval s, .int .u64 ms, .int .i64 mf, .int .i64 mt, .int .i64 mn]] (.one (.leaf .bool)) h Q := by
  refine call_batch_May (r_0 := 2) (r_1 := 0) (New.go fun h1 _ x1 z1 r1 => ?_)
  refine Ld.i (row_cell r1 rfl) (Br.f rfl (Br.t rfl ?_))
  refine Ld.u (n := 0) (by rw [add_off]; exact row_cell r1 rfl) (Br.t rfl ?_)
  refine Ld.chs (v := s) (by rw [add_off]; exact row_cell r1 rfl) (Br.t (by rw [hs]; rfl) ?_)
  refine Ld.move (ms := ms) (mf := mf) (mt := mt) (mn := mn) ?_ (ct_moves fun h2 x2 => q _ (x1.after x2))
  rw [add_off]
  refine Cells.row r1 fun i v hv => ?_
  match i, hv with
  | 0, hv => exact hv
  | 1, hv => exact hv
  | 2, hv => exact hv
  | 3, hv => exact hv
  | i + 4, hv => simp at hv

theorem ct_pen_move {kp B : Nat} {s v : Sl} {c1 c2 : Value} {xs : List UInt8} {k q : Int} {ms mf mt mn : Nat} {Q : Mem → Prop} (hB : B ≤ kp) (p : PenAt h kp s c1 c2) (o : OwnB h B ty_uint8 s xs) (h1 : ms ≤ 18446744073709551615) (h2 : mf ≤ 65536) (h3 : mt ≤ 65536) (h4 : mn ≤ 65536) (hs : xs.length ≤ 1000)
    (qq : ∀ s' h', PenAt h' kp s' c1 c2 → OwnB h' B ty_uint8 s' (xs ++ [ms, mf, mt, mn].flatMap varB) → Ext B h h' → PenKeep kp h h' → Q h') :
    CallF PG fn_batch_pen_move [.pointer (some ⟨kp, 0, none⟩), .agg #[.int .i64 k, .int .u64 q, sval v, .int .u64 ms, .int .i64 mf, .int .i64 mt, .int .i64 mn]] (.tup []) h Q := by
  have hkp := (Array.getElem?_eq_some_iff.1 p).1
  refine call_batch_pen_move (New.go fun g1 _ x1 z1 r1 => ?_)
  refine Ld.u (n := (ms : Int)) (by rw [add_off]; exact row_cell r1 rfl) (Ld.i (n := (mf : Int)) (by rw [add_off, add_off]; exact row_cell r1 rfl) (Ld.i (n := (mt : Int)) (by rw [add_off, add_off]; exact row_cell r1 rfl) (Ld.i (n := (mn : Int)) (by rw [add_off, add_off]; exact row_cell r1 rfl) ?_)))
  rw [u64_eq (by omega), u64_eq (by omega), u64_eq (by omega)]
  refine New.go fun g2 _ x2 z2 r2 => ?_
  have x : Ext h.size h g2 := x1.after x2
  refine ct_pen_nums (ns := [ms, mf, mt, mn]) hB (p.ext x) (Owns.ext o x) (by decide) (by omega) r2 rfl ?_ (by simp; omega) fun s' h' p' o' x' k' => qq s' h' p' o' ((x.less (by omega)).trans x') ((PenKeep.ext x).trans k')
  intro m hm
  simp only [List.mem_cons, List.not_mem_nil, or_false] at hm
  rcases hm with rfl | rfl | rfl | rfl <;> omega

theorem ct_Write_move {ms mf mt mn : Nat} {Q : Sl → Int → Mem → Prop} (hm : pMove ms mf mt mn = true) (h1 : ms ≤ 18446744073709551615) (q : ∀ s' h', Ext h.size h h' → OwnB h' h.size ty_uint8 s' ([2] ++ [ms, mf, mt, mn].flatMap varB) → Q s' 0 h') :
    CallF PG fn_batch_Write [.agg #[.int .i64 2, .int .u64 0, .slice none 0 0, .int .u64 ms, .int .i64 mf, .int .i64 mt, .int .i64 mn]] (.tup [.leaf .sl, .leaf (.int .i64)]) h Q := by
  have hb : mf ≤ 65536 ∧ mt ≤ 65536 ∧ mn ≤ 65536 := by
    simp only [pMove, Bool.and_eq_true, decide_eq_true_eq] at hm
    omega
  refine call_batch_Write (r_0 := 2) (r_1 := 0) (r_2 := ⟨none, 0, 0⟩) (New.go fun g1 _ x1 z1 r1 => ?_)
  refine Ld.rec (s := ⟨none, 0, 0⟩) (Cells.whole (cs := rcells 2 0 ⟨none, 0, 0⟩ ms mf mt mn) r1) (ct_May_move rfl fun g2 x2 => Br.f (by rw [hm]; rfl) ?_)
  have r2 := (x2.block h.size (by omega)).trans r1
  refine Ld.i (n := 2) (row_cell r2 rfl) (New.go fun g3 _ x3 z3 r3 => New.go fun g4 _ x4 z4 r4 => ?_)
  have z2 := x2.size
  have x24 := x3.after x4
  have r4' := (x24.block h.size (by omega)).trans r2
  refine Ld.i (n := 2) (row_cell r4' rfl) (Ld.rec (s := ⟨none, 0, 0⟩) (Cells.whole (cs := rcells 2 0 ⟨none, 0, 0⟩ ms mf mt mn) r4') (ct_writers fun g5 x5 => ?_))
  have r5 := (x5.block h.size (by omega)).trans r4'
  refine ⟨Ld.rec (s := ⟨none, 0, 0⟩) (Cells.whole (cs := rcells 2 0 ⟨none, 0, 0⟩ ms mf mt mn) r5) rfl, Ld.i (n := 2) (row_cell r5 rfl) rfl, pick2 (callV_fn ?_)⟩
  have r35 : g5[g2.size]? = some (.cells #[bcell 2] ty_uint8 (0, 0)) := ((x4.after x5).block g2.size (by omega)).trans r3
  have z5 := x5.size
  have p5 : PenAt g5 g3.size ⟨some ⟨g2.size, 0, none⟩, 1, 1⟩ (.int .i64 0) (.int .i64 0) := (x5.block g3.size (by omega)).trans r4
  have o5 : OwnB g5 h.size ty_uint8 ⟨some ⟨g2.size, 0, none⟩, 1, 1⟩ [2] := ⟨rfl, .inr ⟨g2.size, 1, _, rfl, by omega, r35, Nat.le_refl _, by decide, rfl, rfl⟩⟩
  refine ct_pen_move (by omega) p5 o5 h1 hb.1 hb.2.1 hb.2.2 (by simp) fun s' g6 p6 o6 x6 k6 => ?_
  refine Ld.bytes (row_cell p6 rfl) (q s' g6 ?_ o6)
  exact x1.trans ((x2.after (x24.after x5)).less (by omega)) |>.trans x6

theorem OpsAt.isNil (h : Mem) : OpsAt h ⟨none, 0, 0⟩ [] := ⟨rfl, fun i p hp => by simp at hp, fun _ => rfl⟩
theorem ct_awake10 {Q : Bool → Mem → Prop} (q : ∀ h', Ext h.size h h' → Q true h') : CallF PG fn_dunnagelaw10_awake [] (.one (.leaf .bool)) h Q := by
  refine call_dunnagelaw10_awake ?_
  refine ct_Write_move (ms := 5) (mf := 9) (mt := 2) (mn := 3) (by decide) (by decide) fun s' h1 x1 o1 => Br.t rfl (Br.t ?_ ?_)
  · rw [o1.len]
    simp only [List.flatMap_cons, List.flatMap_nil, varB_small (show 5 < 128 by decide), varB_small (show 9 < 128 by decide), varB_small (show 2 < 128 by decide), varB_small (show 3 < 128 by decide)]
    rfl
  · exact ct_batch_Check (s := ⟨none, 0, 0⟩) (OpsAt.isNil h1) (by simp) (fun i o ho => by simp at ho) fun h2 x2 => q h2 (x1.after x2)
end
end Go.Dn.W
