/- What each function asks for: typed text, and the theorem that the code does it. -/
import Derived.Test.YtemelcaoepaoiaaDnNames
set_option maxRecDepth 100000
set_option linter.unusedVariables false
namespace Go.Dn.W
open Go Go.Dn Go.Proofs

/- 81: dunnage/batch.writers -/
def tab_batch_writers : Tab := ⟨[], [], []⟩
def wp_batch_writers  (h : Mem) (Q : Value → Value → Value → Mem → Prop) : Prop :=
  New (Obj.cells #[Value.nilFunc, Value.nilFunc, Value.nilFunc] ty_3_func_ptr_batch_pen_api_Record) h fun (k1 : Nat) (h2 : Mem) =>
    St PG ty_3_func_ptr_batch_pen_api_Record (Addr.mk k1 0 none) (Value.agg #[Value.nilFunc, Value.func (Fn.func fn_batch_pen_batch) #[] #[], Value.func (Fn.func fn_batch_pen_move) #[] #[]]) h2 fun (h3 : Mem) =>
      Ld PG ty_3_func_ptr_batch_pen_api_Record (Addr.mk k1 0 none) (Kd.one (Cmp.agg [Leaf.raw, Leaf.raw, Leaf.raw])) h3 fun (v4 v5 v6 : Value) => Q v4 v5 v6 h3
theorem eq_batch_writers  (h : Mem) (Q : Value → Value → Value → Mem → Prop) : wp_batch_writers  h Q = evFn PG fn_batch_writers tab_batch_writers [] (.one (.agg [.raw, .raw, .raw])) h Q := by kernel_rfl
theorem ok_batch_writers : okF PG fn_batch_writers tab_batch_writers = true := by kernel_rfl
theorem call_batch_writers {h : Mem} {Q : Value → Value → Value → Mem → Prop} (w : wp_batch_writers  h Q) : CallF PG fn_batch_writers [] (.one (.agg [.raw, .raw, .raw])) h Q := callF_of PM ok_batch_writers (eq_batch_writers  h Q ▸ w)

/- 82: dunnage/dunnageref10.nums; loop 3: [b, i] -/
def tab_dunnageref10_nums : Tab := ⟨[(3, ⟨[(3, .leaf .sl), (4, .leaf (.int .i64))], [5, 6, 7, 8, 9, 10, 11, 12, 13, 14, 15, 16, 17]⟩)], [], []⟩
def wp_dunnageref10_nums (l : Sl) (h : Mem) (Q : Sl → Mem → Prop) : Prop :=
  ∃ (I1 : Sl → Int → Mem → Prop),
    ∃ (I2 : Sl → Int → Mem → Nat),
      I1 (Sl.mk none 0 0) 0 h ∧
        ∀ (j3 : Fr) (s4 : Sl) (n5 : Int) (h6 : Mem),
          I1 s4 n5 h6 →
            Br (decide (n5 < (↑l.len : Int)))
              (Idx l.a l.len n5 fun (p7 : Addr) =>
                Ld PG ty_uint64 (p7.add (n5.toNat * 1)) (Kd.one (Cmp.leaf (Leaf.int IntKind.u64))) h6 fun (n8 : Int) =>
                  CallF PG fn_dunnageref01_Var [Value.int IntKind.u64 n8] (Kd.one (Cmp.leaf Leaf.sl)) h6 fun (s9 : Sl) (h10 : Mem) =>
                    PrimT PG (Builtin.append_ #[ty_sl_uint8, ty_sl_uint8] ty_sl_uint8 #[Value.slice s4.a s4.len s4.cap, Value.slice s9.a s9.len s9.cap]) (Kd.one (Cmp.leaf Leaf.sl)) h10
                      fun (s11 : Sl) (h12 : Mem) =>
                      I1 (Sl.mk s11.a s11.len s11.cap) (IntKind.i64.wrap (n5 + 1)) h12 ∧ I2 (Sl.mk s11.a s11.len s11.cap) (IntKind.i64.wrap (n5 + 1)) h12 < I2 s4 n5 h6)
              (Q (Sl.mk s4.a s4.len s4.cap) h6)
theorem eq_dunnageref10_nums (l : Sl) (h : Mem) (Q : Sl → Mem → Prop) : wp_dunnageref10_nums l h Q = evFn PG fn_dunnageref10_nums tab_dunnageref10_nums [.slice l.a l.len l.cap] (.one (.leaf .sl)) h Q := by kernel_rfl
theorem ok_dunnageref10_nums : okF PG fn_dunnageref10_nums tab_dunnageref10_nums = true := by kernel_rfl
theorem call_dunnageref10_nums {l : Sl} {h : Mem} {Q : Sl → Mem → Prop} (w : wp_dunnageref10_nums l h Q) : CallF PG fn_dunnageref10_nums [.slice l.a l.len l.cap] (.one (.leaf .sl)) h Q := callF_of PM ok_dunnageref10_nums (eq_dunnageref10_nums l h Q ▸ w)

/- 83: dunnage/dunnageref01.Text -/
def tab_dunnageref01_Text : Tab := ⟨[], [], []⟩
def wp_dunnageref01_Text (t : Sl) (h : Mem) (Q : Sl → Mem → Prop) : Prop :=
  CallF PG fn_dunnageref01_Var [Value.int IntKind.u64 (IntKind.u64.wrap (↑t.len : Int))] (Kd.one (Cmp.leaf Leaf.sl)) h fun (s1 : Sl) (h2 : Mem) =>
    PrimT PG (Builtin.append_ #[ty_sl_uint8, ty_sl_uint8] ty_sl_uint8 #[Value.slice s1.a s1.len s1.cap, Value.slice t.a t.len t.cap]) (Kd.one (Cmp.leaf Leaf.sl)) h2 fun (s3 : Sl) (h4 : Mem) =>
      Q (Sl.mk s3.a s3.len s3.cap) h4
theorem eq_dunnageref01_Text (t : Sl) (h : Mem) (Q : Sl → Mem → Prop) : wp_dunnageref01_Text t h Q = evFn PG fn_dunnageref01_Text tab_dunnageref01_Text [.slice t.a t.len t.cap] (.one (.leaf .sl)) h Q := by kernel_rfl
theorem ok_dunnageref01_Text : okF PG fn_dunnageref01_Text tab_dunnageref01_Text = true := by kernel_rfl
theorem call_dunnageref01_Text {t : Sl} {h : Mem} {Q : Sl → Mem → Prop} (w : wp_dunnageref01_Text t h Q) : CallF PG fn_dunnageref01_Text [.slice t.a t.len t.cap] (.one (.leaf .sl)) h Q := callF_of PM ok_dunnageref01_Text (eq_dunnageref01_Text t h Q ▸ w)

/- 84: dunnage/batch.changes; loop 4: [] -/
def tab_batch_changes : Tab := ⟨[(4, ⟨[(15, .leaf (.int .i64))], [2, 3, 4, 16, 17, 18, 19, 20, 21, 22, 23, 24, 25, 26, 27, 28, 29, 30, 31, 32, 33, 34, 35, 36, 37, 38, 39, 40, 41, 42, 43, 44, 45, 46, 47, 48, 49, 50, 51, 52, 53, 54, 55, 56, 57, 58]⟩)], [], [(1, (chainT [(0, false), (1, false), (2, false), (3, false)] (.join ⟨[(12, .leaf .bool)], [9, 10, 11]⟩ (chainT [(4, false), (5, false), (6, false), (7, false)] .nil) .nil)))]⟩
def wp_batch_changes (l : Sl) (h : Mem) (Q : Bool → Mem → Prop) : Prop :=
  ∃ (I1 : Bool → Mem → Prop),
    (∀ (j2 : Fr) (b3 : Bool) (h4 : Mem),
        I1 b3 h4 →
          Br b3 (Q false h4)
            (∃ (I5 : Int → Mem → Prop),
              ∃ (I6 : Int → Mem → Nat),
                I5 0 h4 ∧
                  ∀ (j7 : Fr) (n8 : Int) (h9 : Mem),
                    I5 n8 h9 →
                      Br (decide (n8 < (↑l.len : Int)))
                        (Idx l.a l.len n8 fun (p10 : Addr) =>
                          Ld PG ty_api_Change (p10.add (n8.toNat * 5)) (Kd.one (Cmp.agg [Leaf.str, Leaf.int IntKind.u64, Leaf.int IntKind.i64, Leaf.int IntKind.i64, Leaf.bool])) h9
                            fun (t11 : ByteArray) (n12 n13 n14 : Int) (b15 : Bool) =>
                            New (Obj.cells #[Value.string (ByteArray.mk #[]), Value.int IntKind.u64 0, Value.int IntKind.i64 0, Value.int IntKind.i64 0, Value.bool false] ty_api_Change) h9
                              fun (k16 : Nat) (h17 : Mem) =>
                              St PG ty_api_Change (Addr.mk k16 0 none)
                                (Value.agg #[Value.string t11, Value.int IntKind.u64 n12, Value.int IntKind.i64 n13, Value.int IntKind.i64 n14, Value.bool b15]) h17
                                fun (h18 : Mem) =>
                                Ld PG ty_string (Addr.mk k16 0 none) (Kd.one (Cmp.leaf Leaf.str)) h18 fun (t19 : ByteArray) =>
                                  CallF PG fn_keys_May [Value.string t19] (Kd.one (Cmp.leaf Leaf.bool)) h18 fun (b20 : Bool) (h21 : Mem) =>
                                    Br (!b20) (Q false h21)
                                      (Br (decide (n8 > 0))
                                        (Ld PG ty_string (Addr.mk k16 0 none) (Kd.one (Cmp.leaf Leaf.str)) h21 fun (t22 : ByteArray) =>
                                          Idx l.a l.len (IntKind.i64.wrap (n8 - 1)) fun (p23 : Addr) =>
                                            Ld PG ty_string (p23.add ((IntKind.i64.wrap (n8 - 1)).toNat * 5)) (Kd.one (Cmp.leaf Leaf.str)) h21 fun (t24 : ByteArray) =>
                                              Br (sLt t22 t24 || sEq t22 t24) (Q false h21)
                                                (Ld PG ty_bool ((Addr.mk k16 0 none).add 4) (Kd.one (Cmp.leaf Leaf.bool)) h21 fun (b25 : Bool) =>
                                                  Br b25
                                                    (Ld PG ty_api_Ref ((Addr.mk k16 0 none).add 1) (Kd.one (Cmp.agg [Leaf.int IntKind.u64, Leaf.int IntKind.i64, Leaf.int IntKind.i64]))
                                                      h21 fun (n26 n27 n28 : Int) =>
                                                      EqP PG BinOp.neq ty_api_Ref (Value.agg #[Value.int IntKind.u64 n26, Value.int IntKind.i64 n27, Value.int IntKind.i64 n28])
                                                        (Value.agg #[Value.int IntKind.u64 0, Value.int IntKind.i64 0, Value.int IntKind.i64 0]) fun (b29 : Bool) =>
                                                        Br b29 (Q false h21)
                                                          (Ld PG ty_bool ((Addr.mk k16 0 none).add 4) (Kd.one (Cmp.leaf Leaf.bool)) h21 fun (b30 : Bool) =>
                                                            Br (!b30)
                                                              (Ld PG ty_api_Ref ((Addr.mk k16 0 none).add 1)
                                                                (Kd.one (Cmp.agg [Leaf.int IntKind.u64, Leaf.int IntKind.i64, Leaf.int IntKind.i64])) h21 fun (n31 n32 n33 : Int) =>
                                                                CallF PG fn_batch_points [Value.agg #[Value.int IntKind.u64 n31, Value.int IntKind.i64 n32, Value.int IntKind.i64 n33]]
                                                                  (Kd.one (Cmp.leaf Leaf.bool)) h21 fun (b34 : Bool) (h35 : Mem) =>
                                                                  Br (!b34) (Q false h35) (I5 (IntKind.i64.wrap (n8 + 1)) h35 ∧ I6 (IntKind.i64.wrap (n8 + 1)) h35 < I6 n8 h9))
                                                              (I5 (IntKind.i64.wrap (n8 + 1)) h21 ∧ I6 (IntKind.i64.wrap (n8 + 1)) h21 < I6 n8 h9)))
                                                    (Ld PG ty_bool ((Addr.mk k16 0 none).add 4) (Kd.one (Cmp.leaf Leaf.bool)) h21 fun (b36 : Bool) =>
                                                      Br (!b36)
                                                        (Ld PG ty_api_Ref ((Addr.mk k16 0 none).add 1)
                                                          (Kd.one (Cmp.agg [Leaf.int IntKind.u64, Leaf.int IntKind.i64, Leaf.int IntKind.i64])) h21 fun (n37 n38 n39 : Int) =>
                                                          CallF PG fn_batch_points [Value.agg #[Value.int IntKind.u64 n37, Value.int IntKind.i64 n38, Value.int IntKind.i64 n39]]
                                                            (Kd.one (Cmp.leaf Leaf.bool)) h21 fun (b40 : Bool) (h41 : Mem) =>
                                                            Br (!b40) (Q false h41) (I5 (IntKind.i64.wrap (n8 + 1)) h41 ∧ I6 (IntKind.i64.wrap (n8 + 1)) h41 < I6 n8 h9))
                                                        (I5 (IntKind.i64.wrap (n8 + 1)) h21 ∧ I6 (IntKind.i64.wrap (n8 + 1)) h21 < I6 n8 h9))))
                                        (Ld PG ty_bool ((Addr.mk k16 0 none).add 4) (Kd.one (Cmp.leaf Leaf.bool)) h21 fun (b42 : Bool) =>
                                          Br b42
                                            (Ld PG ty_api_Ref ((Addr.mk k16 0 none).add 1) (Kd.one (Cmp.agg [Leaf.int IntKind.u64, Leaf.int IntKind.i64, Leaf.int IntKind.i64])) h21
                                              fun (n43 n44 n45 : Int) =>
                                              EqP PG BinOp.neq ty_api_Ref (Value.agg #[Value.int IntKind.u64 n43, Value.int IntKind.i64 n44, Value.int IntKind.i64 n45])
                                                (Value.agg #[Value.int IntKind.u64 0, Value.int IntKind.i64 0, Value.int IntKind.i64 0]) fun (b46 : Bool) =>
                                                Br b46 (Q false h21)
                                                  (Ld PG ty_bool ((Addr.mk k16 0 none).add 4) (Kd.one (Cmp.leaf Leaf.bool)) h21 fun (b47 : Bool) =>
                                                    Br (!b47)
                                                      (Ld PG ty_api_Ref ((Addr.mk k16 0 none).add 1)
                                                        (Kd.one (Cmp.agg [Leaf.int IntKind.u64, Leaf.int IntKind.i64, Leaf.int IntKind.i64])) h21 fun (n48 n49 n50 : Int) =>
                                                        CallF PG fn_batch_points [Value.agg #[Value.int IntKind.u64 n48, Value.int IntKind.i64 n49, Value.int IntKind.i64 n50]]
                                                          (Kd.one (Cmp.leaf Leaf.bool)) h21 fun (b51 : Bool) (h52 : Mem) =>
                                                          Br (!b51) (Q false h52) (I5 (IntKind.i64.wrap (n8 + 1)) h52 ∧ I6 (IntKind.i64.wrap (n8 + 1)) h52 < I6 n8 h9))
                                                      (I5 (IntKind.i64.wrap (n8 + 1)) h21 ∧ I6 (IntKind.i64.wrap (n8 + 1)) h21 < I6 n8 h9)))
                                            (Ld PG ty_bool ((Addr.mk k16 0 none).add 4) (Kd.one (Cmp.leaf Leaf.bool)) h21 fun (b53 : Bool) =>
                                              Br (!b53)
                                                (Ld PG ty_api_Ref ((Addr.mk k16 0 none).add 1) (Kd.one (Cmp.agg [Leaf.int IntKind.u64, Leaf.int IntKind.i64, Leaf.int IntKind.i64])) h21
                                                  fun (n54 n55 n56 : Int) =>
                                                  CallF PG fn_batch_points [Value.agg #[Value.int IntKind.u64 n54, Value.int IntKind.i64 n55, Value.int IntKind.i64 n56]]
                                                    (Kd.one (Cmp.leaf Leaf.bool)) h21 fun (b57 : Bool) (h58 : Mem) =>
                                                    Br (!b57) (Q false h58) (I5 (IntKind.i64.wrap (n8 + 1)) h58 ∧ I6 (IntKind.i64.wrap (n8 + 1)) h58 < I6 n8 h9))
                                                (I5 (IntKind.i64.wrap (n8 + 1)) h21 ∧ I6 (IntKind.i64.wrap (n8 + 1)) h21 < I6 n8 h9)))))
                        (Q true h9))) ∧
      Br (decide ((↑l.len : Int) < 1)) (I1 true h) (I1 (decide ((↑l.len : Int) > 32)) h)
theorem eq_batch_changes (l : Sl) (h : Mem) (Q : Bool → Mem → Prop) : wp_batch_changes l h Q = evFn PG fn_batch_changes tab_batch_changes [.slice l.a l.len l.cap] (.one (.leaf .bool)) h Q := by kernel_rfl
theorem ok_batch_changes : okF PG fn_batch_changes tab_batch_changes = true := by kernel_rfl
theorem call_batch_changes {l : Sl} {h : Mem} {Q : Bool → Mem → Prop} (w : wp_batch_changes l h Q) : CallF PG fn_batch_changes [.slice l.a l.len l.cap] (.one (.leaf .bool)) h Q := callF_of PM ok_batch_changes (eq_batch_changes l h Q ▸ w)

/- 85: dunnage/batch.moves -/
def tab_batch_moves : Tab := ⟨[], [], [(1, (chainT [(0, false), (1, false), (2, false), (3, false)] (.join ⟨[(10, .leaf .bool)], [7, 8, 9]⟩ (chainT [(4, false), (5, false), (6, false), (7, false)] .nil) (chainT [(8, false), (9, false), (10, false), (11, false), (12, false), (13, false), (14, false), (15, false), (16, false), (17, false), (18, false), (19, false), (20, false), (21, false), (22, false), (23, false), (24, false), (25, false), (26, false), (27, false), (28, false), (29, false), (30, false), (31, false), (32, false), (33, false), (34, false), (35, false), (36, false), (37, false), (38, false), (39, false), (40, false)] .nil))))]⟩
def wp_batch_moves (m_0 : Int) (m_1 : Int) (m_2 : Int) (m_3 : Int) (h : Mem) (Q : Bool → Mem → Prop) : Prop :=
  New (Obj.cells #[Value.int IntKind.u64 m_0, Value.int IntKind.i64 m_1, Value.int IntKind.i64 m_2, Value.int IntKind.i64 m_3] ty_api_Move) h fun (k1 : Nat) (h2 : Mem) =>
    Ld PG ty_uint64 (Addr.mk k1 0 none) (Kd.one (Cmp.leaf (Leaf.int IntKind.u64))) h2 fun (n3 : Int) =>
      ∃ (I4 : Bool → Mem → Prop),
        (∀ (j5 : Fr) (b6 : Bool) (h7 : Mem),
            I4 b6 h7 →
              Br b6
                (Ld PG ty_int ((Addr.mk k1 0 none).add 1) (Kd.one (Cmp.leaf (Leaf.int IntKind.i64))) h7 fun (n8 : Int) =>
                  Br (decide (n8 ≤ 65536))
                    (Ld PG ty_int ((Addr.mk k1 0 none).add 2) (Kd.one (Cmp.leaf (Leaf.int IntKind.i64))) h7 fun (n9 : Int) =>
                      Br (decide (n9 ≥ 0))
                        (Ld PG ty_int ((Addr.mk k1 0 none).add 2) (Kd.one (Cmp.leaf (Leaf.int IntKind.i64))) h7 fun (n10 : Int) =>
                          Br (decide (n10 ≤ 65536))
                            (Ld PG ty_int ((Addr.mk k1 0 none).add 1) (Kd.one (Cmp.leaf (Leaf.int IntKind.i64))) h7 fun (n11 : Int) =>
                              Ld PG ty_int ((Addr.mk k1 0 none).add 2) (Kd.one (Cmp.leaf (Leaf.int IntKind.i64))) h7 fun (n12 : Int) =>
                                Br (n11 != n12)
                                  (Ld PG ty_int ((Addr.mk k1 0 none).add 3) (Kd.one (Cmp.leaf (Leaf.int IntKind.i64))) h7 fun (n13 : Int) =>
                                    Br (decide (n13 ≥ 1))
                                      (Ld PG ty_int ((Addr.mk k1 0 none).add 3) (Kd.one (Cmp.leaf (Leaf.int IntKind.i64))) h7 fun (n14 : Int) => Q (decide (n14 ≤ 9)) h7)
                                      (Q false h7))
                                  (Q false h7))
                            (Q false h7))
                        (Q false h7))
                    (Q false h7))
                (Q false h7)) ∧
          Br (decide (n3 ≥ 1)) (Ld PG ty_int ((Addr.mk k1 0 none).add 1) (Kd.one (Cmp.leaf (Leaf.int IntKind.i64))) h2 fun (n15 : Int) => I4 (decide (n15 ≥ 0)) h2) (I4 false h2)
theorem eq_batch_moves (m_0 : Int) (m_1 : Int) (m_2 : Int) (m_3 : Int) (h : Mem) (Q : Bool → Mem → Prop) : wp_batch_moves m_0 m_1 m_2 m_3 h Q = evFn PG fn_batch_moves tab_batch_moves [.agg #[.int .u64 m_0, .int .i64 m_1, .int .i64 m_2, .int .i64 m_3]] (.one (.leaf .bool)) h Q := by kernel_rfl
theorem ok_batch_moves : okF PG fn_batch_moves tab_batch_moves = true := by kernel_rfl
theorem call_batch_moves {m_0 : Int} {m_1 : Int} {m_2 : Int} {m_3 : Int} {h : Mem} {Q : Bool → Mem → Prop} (w : wp_batch_moves m_0 m_1 m_2 m_3 h Q) : CallF PG fn_batch_moves [.agg #[.int .u64 m_0, .int .i64 m_1, .int .i64 m_2, .int .i64 m_3]] (.one (.leaf .bool)) h Q := callF_of PM ok_batch_moves (eq_batch_moves m_0 m_1 m_2 m_3 h Q ▸ w)

/- 86: dunnage/dunnageref10.MayMove -/
def tab_dunnageref10_MayMove : Tab := ⟨[], [], [(1, (chainT [(0, false), (1, false), (2, false), (3, false)] (.join ⟨[(10, .leaf .bool)], [7, 8, 9]⟩ (chainT [(4, false), (5, false), (6, false), (7, false)] .nil) (chainT [(8, false), (9, false), (10, false), (11, false), (12, false), (13, false), (14, false), (15, false), (16, false), (17, false), (18, false), (19, false), (20, false), (21, false), (22, false), (23, false), (24, false), (25, false), (26, false), (27, false), (28, false), (29, false), (30, false), (31, false), (32, false), (33, false), (34, false), (35, false), (36, false), (37, false), (38, false), (39, false), (40, false)] .nil))))]⟩
def wp_dunnageref10_MayMove (m_0 : Int) (m_1 : Int) (m_2 : Int) (m_3 : Int) (h : Mem) (Q : Bool → Mem → Prop) : Prop :=
  New (Obj.cells #[Value.int IntKind.u64 m_0, Value.int IntKind.i64 m_1, Value.int IntKind.i64 m_2, Value.int IntKind.i64 m_3] ty_api_Move) h fun (k1 : Nat) (h2 : Mem) =>
    Ld PG ty_uint64 (Addr.mk k1 0 none) (Kd.one (Cmp.leaf (Leaf.int IntKind.u64))) h2 fun (n3 : Int) =>
      ∃ (I4 : Bool → Mem → Prop),
        (∀ (j5 : Fr) (b6 : Bool) (h7 : Mem),
            I4 b6 h7 →
              Br b6
                (Ld PG ty_int ((Addr.mk k1 0 none).add 1) (Kd.one (Cmp.leaf (Leaf.int IntKind.i64))) h7 fun (n8 : Int) =>
                  Br (decide (n8 ≤ 65536))
                    (Ld PG ty_int ((Addr.mk k1 0 none).add 2) (Kd.one (Cmp.leaf (Leaf.int IntKind.i64))) h7 fun (n9 : Int) =>
                      Br (decide (n9 ≥ 0))
                        (Ld PG ty_int ((Addr.mk k1 0 none).add 2) (Kd.one (Cmp.leaf (Leaf.int IntKind.i64))) h7 fun (n10 : Int) =>
                          Br (decide (n10 ≤ 65536))
                            (Ld PG ty_int ((Addr.mk k1 0 none).add 1) (Kd.one (Cmp.leaf (Leaf.int IntKind.i64))) h7 fun (n11 : Int) =>
                              Ld PG ty_int ((Addr.mk k1 0 none).add 2) (Kd.one (Cmp.leaf (Leaf.int IntKind.i64))) h7 fun (n12 : Int) =>
                                Br (n11 != n12)
                                  (Ld PG ty_int ((Addr.mk k1 0 none).add 3) (Kd.one (Cmp.leaf (Leaf.int IntKind.i64))) h7 fun (n13 : Int) =>
                                    Br (decide (n13 ≥ 1))
                                      (Ld PG ty_int ((Addr.mk k1 0 none).add 3) (Kd.one (Cmp.leaf (Leaf.int IntKind.i64))) h7 fun (n14 : Int) => Q (decide (n14 ≤ 9)) h7)
                                      (Q false h7))
                                  (Q false h7))
                            (Q false h7))
                        (Q false h7))
                    (Q false h7))
                (Q false h7)) ∧
          Br (decide (n3 ≥ 1)) (Ld PG ty_int ((Addr.mk k1 0 none).add 1) (Kd.one (Cmp.leaf (Leaf.int IntKind.i64))) h2 fun (n15 : Int) => I4 (decide (n15 ≥ 0)) h2) (I4 false h2)
theorem eq_dunnageref10_MayMove (m_0 : Int) (m_1 : Int) (m_2 : Int) (m_3 : Int) (h : Mem) (Q : Bool → Mem → Prop) : wp_dunnageref10_MayMove m_0 m_1 m_2 m_3 h Q = evFn PG fn_dunnageref10_MayMove tab_dunnageref10_MayMove [.agg #[.int .u64 m_0, .int .i64 m_1, .int .i64 m_2, .int .i64 m_3]] (.one (.leaf .bool)) h Q := by kernel_rfl
theorem ok_dunnageref10_MayMove : okF PG fn_dunnageref10_MayMove tab_dunnageref10_MayMove = true := by kernel_rfl
theorem call_dunnageref10_MayMove {m_0 : Int} {m_1 : Int} {m_2 : Int} {m_3 : Int} {h : Mem} {Q : Bool → Mem → Prop} (w : wp_dunnageref10_MayMove m_0 m_1 m_2 m_3 h Q) : CallF PG fn_dunnageref10_MayMove [.agg #[.int .u64 m_0, .int .i64 m_1, .int .i64 m_2, .int .i64 m_3]] (.one (.leaf .bool)) h Q := callF_of PM ok_dunnageref10_MayMove (eq_dunnageref10_MayMove m_0 m_1 m_2 m_3 h Q ▸ w)

/- 87: dunnage/dunnagehelp.Plain[dunnage/api.Change] -/
def tab_dunnagehelp_Plain_api_Change_ : Tab := ⟨[], [], []⟩
def wp_dunnagehelp_Plain_api_Change_ (a : Sl) (b : Sl) (h : Mem) (Q : Bool → Mem → Prop) : Prop :=
  CallF PG fn_dunnagehelp_Same_api_Change_ [Value.slice a.a a.len a.cap, Value.slice b.a b.len b.cap, Value.func (Fn.func fn_dunnagehelp_Plain_api_Change_1) #[] #[]] (Kd.one (Cmp.leaf Leaf.bool)) h fun (b1 : Bool) (h2 : Mem) =>
    Q b1 h2
theorem eq_dunnagehelp_Plain_api_Change_ (a : Sl) (b : Sl) (h : Mem) (Q : Bool → Mem → Prop) : wp_dunnagehelp_Plain_api_Change_ a b h Q = evFn PG fn_dunnagehelp_Plain_api_Change_ tab_dunnagehelp_Plain_api_Change_ [.slice a.a a.len a.cap, .slice b.a b.len b.cap] (.one (.leaf .bool)) h Q := by kernel_rfl
theorem ok_dunnagehelp_Plain_api_Change_ : okF PG fn_dunnagehelp_Plain_api_Change_ tab_dunnagehelp_Plain_api_Change_ = true := by kernel_rfl
theorem call_dunnagehelp_Plain_api_Change_ {a : Sl} {b : Sl} {h : Mem} {Q : Bool → Mem → Prop} (w : wp_dunnagehelp_Plain_api_Change_ a b h Q) : CallF PG fn_dunnagehelp_Plain_api_Change_ [.slice a.a a.len a.cap, .slice b.a b.len b.cap] (.one (.leaf .bool)) h Q := callF_of PM ok_dunnagehelp_Plain_api_Change_ (eq_dunnagehelp_Plain_api_Change_ a b h Q ▸ w)

/- 88: dunnage/dunnagehelp.CopyBytes -/
def tab_dunnagehelp_CopyBytes : Tab := ⟨[], [], []⟩
def wp_dunnagehelp_CopyBytes (b : Sl) (h : Mem) (Q : Sl → Mem → Prop) : Prop :=
  PrimT PG (Builtin.append_ #[ty_sl_uint8, ty_sl_uint8] ty_sl_uint8 #[Value.slice none 0 0, Value.slice b.a b.len b.cap]) (Kd.one (Cmp.leaf Leaf.sl)) h fun (s1 : Sl) (h2 : Mem) =>
    Q (Sl.mk s1.a s1.len s1.cap) h2
theorem eq_dunnagehelp_CopyBytes (b : Sl) (h : Mem) (Q : Sl → Mem → Prop) : wp_dunnagehelp_CopyBytes b h Q = evFn PG fn_dunnagehelp_CopyBytes tab_dunnagehelp_CopyBytes [.slice b.a b.len b.cap] (.one (.leaf .sl)) h Q := by kernel_rfl
theorem ok_dunnagehelp_CopyBytes : okF PG fn_dunnagehelp_CopyBytes tab_dunnagehelp_CopyBytes = true := by kernel_rfl
theorem call_dunnagehelp_CopyBytes {b : Sl} {h : Mem} {Q : Sl → Mem → Prop} (w : wp_dunnagehelp_CopyBytes b h Q) : CallF PG fn_dunnagehelp_CopyBytes [.slice b.a b.len b.cap] (.one (.leaf .sl)) h Q := callF_of PM ok_dunnagehelp_CopyBytes (eq_dunnagehelp_CopyBytes b h Q ▸ w)

/- 89: dunnage/plain.own -/
def tab_plain_own : Tab := ⟨[], [], []⟩
def wp_plain_own (p_0 : ByteArray) (p_1 : Sl) (h : Mem) (Q : ByteArray → Sl → Mem → Prop) : Prop :=
  New (Obj.cells #[Value.string p_0, Value.slice p_1.a p_1.len p_1.cap] ty_api_Pair) h fun (k1 : Nat) (h2 : Mem) =>
    New (Obj.cells #[Value.string (ByteArray.mk #[]), Value.slice none 0 0] ty_api_Pair) h2 fun (k3 : Nat) (h4 : Mem) =>
      Ld PG ty_sl_uint8 ((Addr.mk k1 0 none).add 1) (Kd.one (Cmp.leaf Leaf.sl)) h4 fun (s5 : Sl) =>
        CallF PG fn_slices_Clone_byte_byte_ [Value.slice s5.a s5.len s5.cap] (Kd.one (Cmp.leaf Leaf.sl)) h4 fun (s6 : Sl) (h7 : Mem) =>
          St PG ty_sl_uint8 ((Addr.mk k1 0 none).add 1) (Value.slice s6.a s6.len s6.cap) h7 fun (h8 : Mem) =>
            Ld PG ty_api_Pair (Addr.mk k1 0 none) (Kd.one (Cmp.agg [Leaf.str, Leaf.sl])) h8 fun (t9 : ByteArray) (s10 : Sl) =>
              St PG ty_api_Pair (Addr.mk k3 0 none) (Value.agg #[Value.string t9, Value.slice s10.a s10.len s10.cap]) h8 fun (h11 : Mem) =>
                Ld PG ty_api_Pair (Addr.mk k3 0 none) (Kd.one (Cmp.agg [Leaf.str, Leaf.sl])) h11 fun (t12 : ByteArray) (s13 : Sl) => Q t12 (Sl.mk s13.a s13.len s13.cap) h11
theorem eq_plain_own (p_0 : ByteArray) (p_1 : Sl) (h : Mem) (Q : ByteArray → Sl → Mem → Prop) : wp_plain_own p_0 p_1 h Q = evFn PG fn_plain_own tab_plain_own [.agg #[.string p_0, .slice p_1.a p_1.len p_1.cap]] (.one (.agg [.str, .sl])) h Q := by kernel_rfl
theorem ok_plain_own : okF PG fn_plain_own tab_plain_own = true := by kernel_rfl
theorem call_plain_own {p_0 : ByteArray} {p_1 : Sl} {h : Mem} {Q : ByteArray → Sl → Mem → Prop} (w : wp_plain_own p_0 p_1 h Q) : CallF PG fn_plain_own [.agg #[.string p_0, .slice p_1.a p_1.len p_1.cap]] (.one (.agg [.str, .sl])) h Q := callF_of PM ok_plain_own (eq_plain_own p_0 p_1 h Q ▸ w)

/- 90: dunnage/plain.place -/
def tab_plain_place : Tab := ⟨[], [], []⟩
def wp_plain_place (l : Sl) (key : ByteArray) (h : Mem) (Q : Int → Bool → Mem → Prop) : Prop :=
  CallF PG fn_slices_BinarySearchFunc_api_Pair_api_Pair_string_ [Value.slice l.a l.len l.cap, Value.string key, Value.func (Fn.func fn_plain_place_1) #[] #[]] (Kd.tup [Cmp.leaf (Leaf.int IntKind.i64), Cmp.leaf Leaf.bool]) h
    fun (n1 : Int) (b2 : Bool) (h3 : Mem) => Q n1 b2 h3
theorem eq_plain_place (l : Sl) (key : ByteArray) (h : Mem) (Q : Int → Bool → Mem → Prop) : wp_plain_place l key h Q = evFn PG fn_plain_place tab_plain_place [.slice l.a l.len l.cap, .string key] (.tup [(.leaf (.int .i64)), (.leaf .bool)]) h Q := by kernel_rfl
theorem ok_plain_place : okF PG fn_plain_place tab_plain_place = true := by kernel_rfl
theorem call_plain_place {l : Sl} {key : ByteArray} {h : Mem} {Q : Int → Bool → Mem → Prop} (w : wp_plain_place l key h Q) : CallF PG fn_plain_place [.slice l.a l.len l.cap, .string key] (.tup [(.leaf (.int .i64)), (.leaf .bool)]) h Q := callF_of PM ok_plain_place (eq_plain_place l key h Q ▸ w)

/- 91: slices.Delete[[]dunnage/api.Pair,dunnage/api.Pair] -/
def tab_slices_Delete_api_Pair_api_Pair_ : Tab := ⟨[], [], []⟩
def wp_slices_Delete_api_Pair_api_Pair_ (s : Sl) (i : Int) (j : Int) (h : Mem) (Q : Sl → Mem → Prop) : Prop :=
  Cut 2 s.a s.len s.cap (some i) (some j) (some (↑s.len : Int)) fun (s1 : Sl) =>
    Br (i == j) (Q (Sl.mk s.a s.len s.cap) h)
      (Cut 2 s.a s.len s.cap none (some i) none fun (s2 : Sl) =>
        Cut 2 s.a s.len s.cap (some j) none none fun (s3 : Sl) =>
          PrimT PG (Builtin.append_ #[ty_sl_api_Pair, ty_sl_api_Pair] ty_sl_api_Pair #[Value.slice s2.a s2.len s2.cap, Value.slice s3.a s3.len s3.cap]) (Kd.one (Cmp.leaf Leaf.sl)) h fun (s4 : Sl) (h5 : Mem) =>
            Cut 2 s4.a s4.len s4.cap (some (↑s4.len : Int)) (some (↑s.len : Int)) none fun (s6 : Sl) =>
              PrimT PG (Builtin.clear_ #[ty_sl_api_Pair] ty_0 #[Value.slice s6.a s6.len s6.cap]) (Kd.tup []) h5 fun (h7 : Mem) => Q (Sl.mk s4.a s4.len s4.cap) h7)
theorem eq_slices_Delete_api_Pair_api_Pair_ (s : Sl) (i : Int) (j : Int) (h : Mem) (Q : Sl → Mem → Prop) : wp_slices_Delete_api_Pair_api_Pair_ s i j h Q = evFn PG fn_slices_Delete_api_Pair_api_Pair_ tab_slices_Delete_api_Pair_api_Pair_ [.slice s.a s.len s.cap, .int .i64 i, .int .i64 j] (.one (.leaf .sl)) h Q := by kernel_rfl
theorem ok_slices_Delete_api_Pair_api_Pair_ : okF PG fn_slices_Delete_api_Pair_api_Pair_ tab_slices_Delete_api_Pair_api_Pair_ = true := by kernel_rfl
theorem call_slices_Delete_api_Pair_api_Pair_ {s : Sl} {i : Int} {j : Int} {h : Mem} {Q : Sl → Mem → Prop} (w : wp_slices_Delete_api_Pair_api_Pair_ s i j h Q) : CallF PG fn_slices_Delete_api_Pair_api_Pair_ [.slice s.a s.len s.cap, .int .i64 i, .int .i64 j] (.one (.leaf .sl)) h Q := callF_of PM ok_slices_Delete_api_Pair_api_Pair_ (eq_slices_Delete_api_Pair_api_Pair_ s i j h Q ▸ w)

/- 92: slices.Clone[[]byte,byte] -/
def tab_slices_Clone_byte_byte_ : Tab := ⟨[], [], []⟩
def wp_slices_Clone_byte_byte_ (s : Sl) (h : Mem) (Q : Sl → Mem → Prop) : Prop :=
  Br
    (match s.a with
    | some p2 => false
    | none => true)
    (Q (Sl.mk none 0 0) h)
    (New (Obj.cells #[] ty_uint8) h fun (k4 : Nat) (h5 : Mem) =>
      PrimT PG (Builtin.append_ #[ty_sl_uint8, ty_sl_uint8] ty_sl_uint8 #[Value.slice (some (Addr.mk k4 0 none)) 0 0, Value.slice s.a s.len s.cap]) (Kd.one (Cmp.leaf Leaf.sl)) h5
        fun (s6 : Sl) (h7 : Mem) => Q (Sl.mk s6.a s6.len s6.cap) h7)
theorem eq_slices_Clone_byte_byte_ (s : Sl) (h : Mem) (Q : Sl → Mem → Prop) : wp_slices_Clone_byte_byte_ s h Q = evFn PG fn_slices_Clone_byte_byte_ tab_slices_Clone_byte_byte_ [.slice s.a s.len s.cap] (.one (.leaf .sl)) h Q := by kernel_rfl
theorem ok_slices_Clone_byte_byte_ : okF PG fn_slices_Clone_byte_byte_ tab_slices_Clone_byte_byte_ = true := by kernel_rfl
theorem call_slices_Clone_byte_byte_ {s : Sl} {h : Mem} {Q : Sl → Mem → Prop} (w : wp_slices_Clone_byte_byte_ s h Q) : CallF PG fn_slices_Clone_byte_byte_ [.slice s.a s.len s.cap] (.one (.leaf .sl)) h Q := callF_of PM ok_slices_Clone_byte_byte_ (eq_slices_Clone_byte_byte_ s h Q ▸ w)

/- 93: slices.Insert[[]dunnage/api.Pair,dunnage/api.Pair] -/
def tab_slices_Insert_api_Pair_api_Pair_ : Tab := ⟨[], [], []⟩
def wp_slices_Insert_api_Pair_api_Pair_ (s : Sl) (i : Int) (v : Sl) (h : Mem) (Q : Sl → Mem → Prop) : Prop :=
  Cut 2 s.a s.len s.cap (some i) none none fun (s1 : Sl) =>
    Br ((↑v.len : Int) == 0) (Q (Sl.mk s.a s.len s.cap) h)
      (Br (i == (↑s.len : Int))
        (PrimT PG (Builtin.append_ #[ty_sl_api_Pair, ty_sl_api_Pair] ty_sl_api_Pair #[Value.slice s.a s.len s.cap, Value.slice v.a v.len v.cap]) (Kd.one (Cmp.leaf Leaf.sl)) h fun (s2 : Sl) (h3 : Mem) =>
          Q (Sl.mk s2.a s2.len s2.cap) h3)
        (Br (decide (IntKind.i64.wrap ((↑s.len : Int) + (↑v.len : Int)) > (↑s.cap : Int)))
          (Cut 2 s.a s.len s.cap none (some i) none fun (s4 : Sl) =>
            PrimT PG
              (Builtin.append_ #[ty_sl_api_Pair, ty_int] ty_sl_api_Pair #[Value.slice s4.a s4.len s4.cap, Value.int IntKind.i64 (IntKind.i64.wrap (IntKind.i64.wrap ((↑s.len : Int) + (↑v.len : Int)) - i))])
              (Kd.one (Cmp.leaf Leaf.sl)) h fun (s5 : Sl) (h6 : Mem) =>
              Cut 2 s5.a s5.len s5.cap (some i) none none fun (s7 : Sl) =>
                PrimT PG (Builtin.copy_ #[ty_sl_api_Pair, ty_sl_api_Pair] ty_int #[Value.slice s7.a s7.len s7.cap, Value.slice v.a v.len v.cap]) (Kd.one (Cmp.leaf (Leaf.int IntKind.i64))) h6
                  fun (n8 : Int) (h9 : Mem) =>
                  Cut 2 s5.a s5.len s5.cap (some (IntKind.i64.wrap (i + (↑v.len : Int)))) none none fun (s10 : Sl) =>
                    Cut 2 s.a s.len s.cap (some i) none none fun (s11 : Sl) =>
                      PrimT PG (Builtin.copy_ #[ty_sl_api_Pair, ty_sl_api_Pair] ty_int #[Value.slice s10.a s10.len s10.cap, Value.slice s11.a s11.len s11.cap]) (Kd.one (Cmp.leaf (Leaf.int IntKind.i64))) h9
                        fun (n12 : Int) (h13 : Mem) => Q (Sl.mk s5.a s5.len s5.cap) h13)
          (Cut 2 s.a s.len s.cap none (some (IntKind.i64.wrap ((↑s.len : Int) + (↑v.len : Int)))) none fun (s14 : Sl) =>
            Cut 2 s14.a s14.len s14.cap (some (IntKind.i64.wrap (i + (↑v.len : Int)))) none none fun (s15 : Sl) =>
              CallF PG fn_slices_overlaps_api_Pair_ [Value.slice v.a v.len v.cap, Value.slice s15.a s15.len s15.cap] (Kd.one (Cmp.leaf Leaf.bool)) h fun (b16 : Bool) (h17 : Mem) =>
                Br (!b16)
                  (Cut 2 s14.a s14.len s14.cap (some (IntKind.i64.wrap (i + (↑v.len : Int)))) none none fun (s18 : Sl) =>
                    Cut 2 s14.a s14.len s14.cap (some i) none none fun (s19 : Sl) =>
                      PrimT PG (Builtin.copy_ #[ty_sl_api_Pair, ty_sl_api_Pair] ty_int #[Value.slice s18.a s18.len s18.cap, Value.slice s19.a s19.len s19.cap]) (Kd.one (Cmp.leaf (Leaf.int IntKind.i64)))
                        h17 fun (n20 : Int) (h21 : Mem) =>
                        Cut 2 s14.a s14.len s14.cap (some i) none none fun (s22 : Sl) =>
                          PrimT PG (Builtin.copy_ #[ty_sl_api_Pair, ty_sl_api_Pair] ty_int #[Value.slice s22.a s22.len s22.cap, Value.slice v.a v.len v.cap]) (Kd.one (Cmp.leaf (Leaf.int IntKind.i64))) h21
                            fun (n23 : Int) (h24 : Mem) => Q (Sl.mk s14.a s14.len s14.cap) h24)
                  (Cut 2 s14.a s14.len s14.cap (some (↑s.len : Int)) none none fun (s25 : Sl) =>
                    PrimT PG (Builtin.copy_ #[ty_sl_api_Pair, ty_sl_api_Pair] ty_int #[Value.slice s25.a s25.len s25.cap, Value.slice v.a v.len v.cap]) (Kd.one (Cmp.leaf (Leaf.int IntKind.i64))) h17
                      fun (n26 : Int) (h27 : Mem) =>
                      Cut 2 s14.a s14.len s14.cap (some i) none none fun (s28 : Sl) =>
                        CallF PG fn_slices_rotateRight_api_Pair_ [Value.slice s28.a s28.len s28.cap, Value.int IntKind.i64 (↑v.len : Int)] (Kd.tup []) h27 fun (h29 : Mem) =>
                          Q (Sl.mk s14.a s14.len s14.cap) h29))))
theorem eq_slices_Insert_api_Pair_api_Pair_ (s : Sl) (i : Int) (v : Sl) (h : Mem) (Q : Sl → Mem → Prop) : wp_slices_Insert_api_Pair_api_Pair_ s i v h Q = evFn PG fn_slices_Insert_api_Pair_api_Pair_ tab_slices_Insert_api_Pair_api_Pair_ [.slice s.a s.len s.cap, .int .i64 i, .slice v.a v.len v.cap] (.one (.leaf .sl)) h Q := by kernel_rfl
theorem ok_slices_Insert_api_Pair_api_Pair_ : okF PG fn_slices_Insert_api_Pair_api_Pair_ tab_slices_Insert_api_Pair_api_Pair_ = true := by kernel_rfl
theorem call_slices_Insert_api_Pair_api_Pair_ {s : Sl} {i : Int} {v : Sl} {h : Mem} {Q : Sl → Mem → Prop} (w : wp_slices_Insert_api_Pair_api_Pair_ s i v h Q) : CallF PG fn_slices_Insert_api_Pair_api_Pair_ [.slice s.a s.len s.cap, .int .i64 i, .slice v.a v.len v.cap] (.one (.leaf .sl)) h Q := callF_of PM ok_slices_Insert_api_Pair_api_Pair_ (eq_slices_Insert_api_Pair_api_Pair_ s i v h Q ▸ w)

/- 94: dunnage/dunnageref11.One; loop 4: [out, done, i] -/
def tab_dunnageref11_One : Tab := ⟨[(4, ⟨[(5, .leaf .sl), (6, .leaf .bool), (7, .leaf (.int .i64))], [10, 11, 12, 13, 14, 15, 16, 17, 18, 19, 20, 21, 22, 23, 24, 25, 26, 27, 28, 29, 30, 31, 32, 33, 34, 35, 36, 37, 38, 39, 40, 41, 42, 43, 44, 45, 46, 47, 48, 49, 50, 51, 52]⟩)], [], [(6, (chainT [(0, false), (1, false), (2, false)] (.join ⟨[(28, .leaf .bool)], [19, 20, 21, 22, 23, 24, 25, 26, 27]⟩ (chainT [(3, false), (4, false), (5, false), (6, false), (7, false), (8, false), (9, false), (10, true), (11, false), (12, false)] .nil) .nil)))]⟩
def wp_dunnageref11_One (l : Sl) (o_0 : ByteArray) (o_1 : Sl) (o_2 : Bool) (h : Mem) (Q : Sl → Mem → Prop) : Prop :=
  New (Obj.cells #[Value.string o_0, Value.slice o_1.a o_1.len o_1.cap, Value.bool o_2] ty_api_Op) h fun (k1 : Nat) (h2 : Mem) =>
    Ld PG ty_bool ((Addr.mk k1 0 none).add 2) (Kd.one (Cmp.leaf Leaf.bool)) h2 fun (b3 : Bool) =>
      ∃ (I4 : Sl → Bool → Int → Mem → Prop),
        ∃ (I5 : Sl → Bool → Int → Mem → Nat),
          I4 (Sl.mk none 0 0) b3 0 h2 ∧
            ∀ (j6 : Fr) (s7 : Sl) (b8 : Bool) (n9 : Int) (h10 : Mem),
              I4 s7 b8 n9 h10 →
                Br (decide (n9 < (↑l.len : Int)))
                  (∃ (I11 : Bool → Mem → Prop),
                    (∀ (j12 : Fr) (b13 : Bool) (h14 : Mem),
                        I11 b13 h14 →
                          Br b13
                            (Ld PG ty_string (Addr.mk k1 0 none) (Kd.one (Cmp.leaf Leaf.str)) h14 fun (t15 : ByteArray) =>
                              Ld PG ty_sl_uint8 ((Addr.mk k1 0 none).add 1) (Kd.one (Cmp.leaf Leaf.sl)) h14 fun (s16 : Sl) =>
                                CallF PG fn_dunnagehelp_CopyBytes [Value.slice s16.a s16.len s16.cap] (Kd.one (Cmp.leaf Leaf.sl)) h14 fun (s17 : Sl) (h18 : Mem) =>
                                  (Ld PG ty_string (Addr.mk k1 0 none) (Kd.one (Cmp.leaf Leaf.str)) h18 fun (t19 : ByteArray) => Value.string t19 = Value.string t15) ∧
                                    New (Obj.cells #[Value.string t15, Value.slice s17.a s17.len s17.cap] ty_api_Pair) h18 fun (k20 : Nat) (h21 : Mem) =>
                                      PrimT PG (Builtin.append_ #[ty_sl_api_Pair, ty_sl_api_Pair] ty_sl_api_Pair #[Value.slice s7.a s7.len s7.cap, Value.slice (some (Addr.mk k20 0 none)) 1 1])
                                        (Kd.one (Cmp.leaf Leaf.sl)) h21 fun (s22 : Sl) (h23 : Mem) =>
                                        Idx l.a l.len n9 fun (p24 : Addr) =>
                                          Ld PG ty_string (p24.add (n9.toNat * 2)) (Kd.one (Cmp.leaf Leaf.str)) h23 fun (t25 : ByteArray) =>
                                            Ld PG ty_string (Addr.mk k1 0 none) (Kd.one (Cmp.leaf Leaf.str)) h23 fun (t26 : ByteArray) =>
                                              Br (!sEq t25 t26)
                                                (Idx l.a l.len n9 fun (p27 : Addr) =>
                                                  Ld PG ty_api_Pair (p27.add (n9.toNat * 2)) (Kd.one (Cmp.agg [Leaf.str, Leaf.sl])) h23 fun (t28 : ByteArray) (s29 : Sl) =>
                                                    New (Obj.cells #[Value.string t28, Value.slice s29.a s29.len s29.cap] ty_api_Pair) h23 fun (k30 : Nat) (h31 : Mem) =>
                                                      PrimT PG (Builtin.append_ #[ty_sl_api_Pair, ty_sl_api_Pair] ty_sl_api_Pair #[Value.slice s22.a s22.len s22.cap, Value.slice (some (Addr.mk k30 0 none)) 1 1])
                                                        (Kd.one (Cmp.leaf Leaf.sl)) h31 fun (s32 : Sl) (h33 : Mem) =>
                                                        I4 (Sl.mk s32.a s32.len s32.cap) true (IntKind.i64.wrap (n9 + 1)) h33 ∧
                                                          I5 (Sl.mk s32.a s32.len s32.cap) true (IntKind.i64.wrap (n9 + 1)) h33 < I5 s7 b8 n9 h10)
                                                (I4 (Sl.mk s22.a s22.len s22.cap) true (IntKind.i64.wrap (n9 + 1)) h23 ∧
                                                  I5 (Sl.mk s22.a s22.len s22.cap) true (IntKind.i64.wrap (n9 + 1)) h23 < I5 s7 b8 n9 h10))
                            (Idx l.a l.len n9 fun (p34 : Addr) =>
                              Ld PG ty_string (p34.add (n9.toNat * 2)) (Kd.one (Cmp.leaf Leaf.str)) h14 fun (t35 : ByteArray) =>
                                Ld PG ty_string (Addr.mk k1 0 none) (Kd.one (Cmp.leaf Leaf.str)) h14 fun (t36 : ByteArray) =>
                                  Br (!sEq t35 t36)
                                    (Idx l.a l.len n9 fun (p37 : Addr) =>
                                      Ld PG ty_api_Pair (p37.add (n9.toNat * 2)) (Kd.one (Cmp.agg [Leaf.str, Leaf.sl])) h14 fun (t38 : ByteArray) (s39 : Sl) =>
                                        New (Obj.cells #[Value.string t38, Value.slice s39.a s39.len s39.cap] ty_api_Pair) h14 fun (k40 : Nat) (h41 : Mem) =>
                                          PrimT PG (Builtin.append_ #[ty_sl_api_Pair, ty_sl_api_Pair] ty_sl_api_Pair #[Value.slice s7.a s7.len s7.cap, Value.slice (some (Addr.mk k40 0 none)) 1 1])
                                            (Kd.one (Cmp.leaf Leaf.sl)) h41 fun (s42 : Sl) (h43 : Mem) =>
                                            I4 (Sl.mk s42.a s42.len s42.cap) b8 (IntKind.i64.wrap (n9 + 1)) h43 ∧
                                              I5 (Sl.mk s42.a s42.len s42.cap) b8 (IntKind.i64.wrap (n9 + 1)) h43 < I5 s7 b8 n9 h10)
                                    (I4 (Sl.mk s7.a s7.len s7.cap) b8 (IntKind.i64.wrap (n9 + 1)) h14 ∧
                                      I5 (Sl.mk s7.a s7.len s7.cap) b8 (IntKind.i64.wrap (n9 + 1)) h14 < I5 s7 b8 n9 h10))) ∧
                      Br (!b8)
                        (Idx l.a l.len n9 fun (p44 : Addr) =>
                          Ld PG ty_string (p44.add (n9.toNat * 2)) (Kd.one (Cmp.leaf Leaf.str)) h10 fun (t45 : ByteArray) =>
                            Ld PG ty_string (Addr.mk k1 0 none) (Kd.one (Cmp.leaf Leaf.str)) h10 fun (t46 : ByteArray) =>
                              CallF PG fn_dunnageref09_Less [Value.string t45, Value.string t46] (Kd.one (Cmp.leaf Leaf.bool)) h10 fun (b47 : Bool) (h48 : Mem) => I11 (!b47) h48)
                        (I11 false h10))
                  (Br (!b8)
                    (Ld PG ty_string (Addr.mk k1 0 none) (Kd.one (Cmp.leaf Leaf.str)) h10 fun (t49 : ByteArray) =>
                      Ld PG ty_sl_uint8 ((Addr.mk k1 0 none).add 1) (Kd.one (Cmp.leaf Leaf.sl)) h10 fun (s50 : Sl) =>
                        CallF PG fn_dunnagehelp_CopyBytes [Value.slice s50.a s50.len s50.cap] (Kd.one (Cmp.leaf Leaf.sl)) h10 fun (s51 : Sl) (h52 : Mem) =>
                          (Ld PG ty_string (Addr.mk k1 0 none) (Kd.one (Cmp.leaf Leaf.str)) h52 fun (t53 : ByteArray) => Value.string t53 = Value.string t49) ∧
                            New (Obj.cells #[Value.string t49, Value.slice s51.a s51.len s51.cap] ty_api_Pair) h52 fun (k54 : Nat) (h55 : Mem) =>
                              PrimT PG (Builtin.append_ #[ty_sl_api_Pair, ty_sl_api_Pair] ty_sl_api_Pair #[Value.slice s7.a s7.len s7.cap, Value.slice (some (Addr.mk k54 0 none)) 1 1]) (Kd.one (Cmp.leaf Leaf.sl))
                                h55 fun (s56 : Sl) (h57 : Mem) => Q (Sl.mk s56.a s56.len s56.cap) h57)
                    (Q (Sl.mk s7.a s7.len s7.cap) h10))
theorem eq_dunnageref11_One (l : Sl) (o_0 : ByteArray) (o_1 : Sl) (o_2 : Bool) (h : Mem) (Q : Sl → Mem → Prop) : wp_dunnageref11_One l o_0 o_1 o_2 h Q = evFn PG fn_dunnageref11_One tab_dunnageref11_One [.slice l.a l.len l.cap, .agg #[.string o_0, .slice o_1.a o_1.len o_1.cap, .bool o_2]] (.one (.leaf .sl)) h Q := by kernel_rfl
theorem ok_dunnageref11_One : okF PG fn_dunnageref11_One tab_dunnageref11_One = true := by kernel_rfl
theorem call_dunnageref11_One {l : Sl} {o_0 : ByteArray} {o_1 : Sl} {o_2 : Bool} {h : Mem} {Q : Sl → Mem → Prop} (w : wp_dunnageref11_One l o_0 o_1 o_2 h Q) : CallF PG fn_dunnageref11_One [.slice l.a l.len l.cap, .agg #[.string o_0, .slice o_1.a o_1.len o_1.cap, .bool o_2]] (.one (.leaf .sl)) h Q := callF_of PM ok_dunnageref11_One (eq_dunnageref11_One l o_0 o_1 o_2 h Q ▸ w)

/- 95: dunnage/dunnagehelp.Same[dunnage/api.Pair]; loop 4: [i] -/
def tab_dunnagehelp_Same_api_Pair_ : Tab := ⟨[(4, ⟨[(7, .leaf (.int .i64))], [6, 13, 14, 15, 16, 17, 18, 19, 20, 21, 22, 23, 24, 25, 26, 27, 28, 29]⟩)], [], []⟩
def wp_dunnagehelp_Same_api_Pair_ (a : Sl) (b : Sl) (one : Value) (h : Mem) (Q : Bool → Mem → Prop) : Prop :=
  Br ((↑a.len : Int) != (↑b.len : Int)) (Q false h)
    (∃ (I1 : Int → Mem → Prop),
      ∃ (I2 : Int → Mem → Nat),
        I1 0 h ∧
          ∀ (j3 : Fr) (n4 : Int) (h5 : Mem),
            I1 n4 h5 →
              Br (decide (n4 < (↑a.len : Int)))
                (Idx a.a a.len n4 fun (p6 : Addr) =>
                  Ld PG ty_api_Pair (p6.add (n4.toNat * 2)) (Kd.one (Cmp.agg [Leaf.str, Leaf.sl])) h5 fun (t7 : ByteArray) (s8 : Sl) =>
                    Idx b.a b.len n4 fun (p9 : Addr) =>
                      Ld PG ty_api_Pair (p9.add (n4.toNat * 2)) (Kd.one (Cmp.agg [Leaf.str, Leaf.sl])) h5 fun (t10 : ByteArray) (s11 : Sl) =>
                        CallV PG one [Value.agg #[Value.string t7, Value.slice s8.a s8.len s8.cap], Value.agg #[Value.string t10, Value.slice s11.a s11.len s11.cap]]
                          (Kd.one (Cmp.leaf Leaf.bool)) h5 fun (b12 : Bool) (h13 : Mem) =>
                          Br (!b12) (Q false h13) (I1 (IntKind.i64.wrap (n4 + 1)) h13 ∧ I2 (IntKind.i64.wrap (n4 + 1)) h13 < I2 n4 h5))
                (Q true h5))
theorem eq_dunnagehelp_Same_api_Pair_ (a : Sl) (b : Sl) (one : Value) (h : Mem) (Q : Bool → Mem → Prop) : wp_dunnagehelp_Same_api_Pair_ a b one h Q = evFn PG fn_dunnagehelp_Same_api_Pair_ tab_dunnagehelp_Same_api_Pair_ [.slice a.a a.len a.cap, .slice b.a b.len b.cap, one] (.one (.leaf .bool)) h Q := by kernel_rfl
theorem ok_dunnagehelp_Same_api_Pair_ : okF PG fn_dunnagehelp_Same_api_Pair_ tab_dunnagehelp_Same_api_Pair_ = true := by kernel_rfl
theorem call_dunnagehelp_Same_api_Pair_ {a : Sl} {b : Sl} {one : Value} {h : Mem} {Q : Bool → Mem → Prop} (w : wp_dunnagehelp_Same_api_Pair_ a b one h Q) : CallF PG fn_dunnagehelp_Same_api_Pair_ [.slice a.a a.len a.cap, .slice b.a b.len b.cap, one] (.one (.leaf .bool)) h Q := callF_of PM ok_dunnagehelp_Same_api_Pair_ (eq_dunnagehelp_Same_api_Pair_ a b one h Q ▸ w)

/- 96: dunnage/dunnagehelp.Pair -/
def tab_dunnagehelp_Pair : Tab := ⟨[], [], []⟩
def wp_dunnagehelp_Pair (a_0 : ByteArray) (a_1 : Sl) (b_0 : ByteArray) (b_1 : Sl) (h : Mem) (Q : Bool → Mem → Prop) : Prop :=
  New (Obj.cells #[Value.string a_0, Value.slice a_1.a a_1.len a_1.cap] ty_api_Pair) h fun (k1 : Nat) (h2 : Mem) =>
    New (Obj.cells #[Value.string b_0, Value.slice b_1.a b_1.len b_1.cap] ty_api_Pair) h2 fun (k3 : Nat) (h4 : Mem) =>
      Ld PG ty_string (Addr.mk k1 0 none) (Kd.one (Cmp.leaf Leaf.str)) h4 fun (t5 : ByteArray) =>
        Ld PG ty_string (Addr.mk k3 0 none) (Kd.one (Cmp.leaf Leaf.str)) h4 fun (t6 : ByteArray) =>
          Br (sEq t5 t6)
            (Ld PG ty_sl_uint8 ((Addr.mk k1 0 none).add 1) (Kd.one (Cmp.leaf Leaf.sl)) h4 fun (s7 : Sl) =>
              Ld PG ty_sl_uint8 ((Addr.mk k3 0 none).add 1) (Kd.one (Cmp.leaf Leaf.sl)) h4 fun (s8 : Sl) =>
                CallF PG fn_dunnagehelp_Bytes [Value.slice s7.a s7.len s7.cap, Value.slice s8.a s8.len s8.cap] (Kd.one (Cmp.leaf Leaf.bool)) h4 fun (b9 : Bool) (h10 : Mem) => Q b9 h10)
            (Q false h4)
theorem eq_dunnagehelp_Pair (a_0 : ByteArray) (a_1 : Sl) (b_0 : ByteArray) (b_1 : Sl) (h : Mem) (Q : Bool → Mem → Prop) : wp_dunnagehelp_Pair a_0 a_1 b_0 b_1 h Q = evFn PG fn_dunnagehelp_Pair tab_dunnagehelp_Pair [.agg #[.string a_0, .slice a_1.a a_1.len a_1.cap], .agg #[.string b_0, .slice b_1.a b_1.len b_1.cap]] (.one (.leaf .bool)) h Q := by kernel_rfl
theorem ok_dunnagehelp_Pair : okF PG fn_dunnagehelp_Pair tab_dunnagehelp_Pair = true := by kernel_rfl
theorem call_dunnagehelp_Pair {a_0 : ByteArray} {a_1 : Sl} {b_0 : ByteArray} {b_1 : Sl} {h : Mem} {Q : Bool → Mem → Prop} (w : wp_dunnagehelp_Pair a_0 a_1 b_0 b_1 h Q) : CallF PG fn_dunnagehelp_Pair [.agg #[.string a_0, .slice a_1.a a_1.len a_1.cap], .agg #[.string b_0, .slice b_1.a b_1.len b_1.cap]] (.one (.leaf .bool)) h Q := callF_of PM ok_dunnagehelp_Pair (eq_dunnagehelp_Pair a_0 a_1 b_0 b_1 h Q ▸ w)

/- 97: dunnage/dunnagehelp.Same[dunnage/api.Op]; loop 4: [i] -/
def tab_dunnagehelp_Same_api_Op_ : Tab := ⟨[(4, ⟨[(7, .leaf (.int .i64))], [6, 13, 14, 15, 16, 17, 18, 19, 20, 21, 22, 23, 24, 25, 26, 27, 28, 29]⟩)], [], []⟩
def wp_dunnagehelp_Same_api_Op_ (a : Sl) (b : Sl) (one : Value) (h : Mem) (Q : Bool → Mem → Prop) : Prop :=
  Br ((↑a.len : Int) != (↑b.len : Int)) (Q false h)
    (∃ (I1 : Int → Mem → Prop),
      ∃ (I2 : Int → Mem → Nat),
        I1 0 h ∧
          ∀ (j3 : Fr) (n4 : Int) (h5 : Mem),
            I1 n4 h5 →
              Br (decide (n4 < (↑a.len : Int)))
                (Idx a.a a.len n4 fun (p6 : Addr) =>
                  Ld PG ty_api_Op (p6.add (n4.toNat * 3)) (Kd.one (Cmp.agg [Leaf.str, Leaf.sl, Leaf.bool])) h5 fun (t7 : ByteArray) (s8 : Sl) (b9 : Bool) =>
                    Idx b.a b.len n4 fun (p10 : Addr) =>
                      Ld PG ty_api_Op (p10.add (n4.toNat * 3)) (Kd.one (Cmp.agg [Leaf.str, Leaf.sl, Leaf.bool])) h5 fun (t11 : ByteArray) (s12 : Sl) (b13 : Bool) =>
                        CallV PG one
                          [Value.agg #[Value.string t7, Value.slice s8.a s8.len s8.cap, Value.bool b9],
                            Value.agg #[Value.string t11, Value.slice s12.a s12.len s12.cap, Value.bool b13]]
                          (Kd.one (Cmp.leaf Leaf.bool)) h5 fun (b14 : Bool) (h15 : Mem) =>
                          Br (!b14) (Q false h15) (I1 (IntKind.i64.wrap (n4 + 1)) h15 ∧ I2 (IntKind.i64.wrap (n4 + 1)) h15 < I2 n4 h5))
                (Q true h5))
theorem eq_dunnagehelp_Same_api_Op_ (a : Sl) (b : Sl) (one : Value) (h : Mem) (Q : Bool → Mem → Prop) : wp_dunnagehelp_Same_api_Op_ a b one h Q = evFn PG fn_dunnagehelp_Same_api_Op_ tab_dunnagehelp_Same_api_Op_ [.slice a.a a.len a.cap, .slice b.a b.len b.cap, one] (.one (.leaf .bool)) h Q := by kernel_rfl
theorem ok_dunnagehelp_Same_api_Op_ : okF PG fn_dunnagehelp_Same_api_Op_ tab_dunnagehelp_Same_api_Op_ = true := by kernel_rfl
theorem call_dunnagehelp_Same_api_Op_ {a : Sl} {b : Sl} {one : Value} {h : Mem} {Q : Bool → Mem → Prop} (w : wp_dunnagehelp_Same_api_Op_ a b one h Q) : CallF PG fn_dunnagehelp_Same_api_Op_ [.slice a.a a.len a.cap, .slice b.a b.len b.cap, one] (.one (.leaf .bool)) h Q := callF_of PM ok_dunnagehelp_Same_api_Op_ (eq_dunnagehelp_Same_api_Op_ a b one h Q ▸ w)

/- 98: (*dunnage/batch.pen).one -/
def tab_batch_pen_one : Tab := ⟨[], [], []⟩
def wp_batch_pen_one (p : Option Addr) (h : Mem) (Q : Int → Mem → Prop) : Prop :=
  Deref p fun (p1 : Addr) =>
    Ld PG ty_api_Errno (p1.add 2) (Kd.one (Cmp.leaf (Leaf.int IntKind.i64))) h fun (n2 : Int) =>
      Br (n2 != 0) (Q 0 h)
        (Deref p fun (p3 : Addr) =>
          Ld PG ty_int (p3.add 1) (Kd.one (Cmp.leaf (Leaf.int IntKind.i64))) h fun (n4 : Int) =>
            Deref p fun (p5 : Addr) =>
              Ld PG ty_sl_uint8 p5 (Kd.one (Cmp.leaf Leaf.sl)) h fun (s6 : Sl) =>
                Br (decide (n4 ≥ (↑s6.len : Int))) (CallF PG fn_batch_pen_fail [Value.pointer p, Value.int IntKind.i64 10] (Kd.tup []) h fun (h7 : Mem) => Q 0 h7)
                  (Deref p fun (p8 : Addr) =>
                    Ld PG ty_int (p8.add 1) (Kd.one (Cmp.leaf (Leaf.int IntKind.i64))) h fun (n9 : Int) =>
                      Deref p fun (p10 : Addr) =>
                        St PG ty_int (p10.add 1) (Value.int IntKind.i64 (IntKind.i64.wrap (n9 + 1))) h fun (h11 : Mem) =>
                          Deref p fun (p12 : Addr) =>
                            Ld PG ty_sl_uint8 p12 (Kd.one (Cmp.leaf Leaf.sl)) h11 fun (s13 : Sl) =>
                              Deref p fun (p14 : Addr) =>
                                Ld PG ty_int (p14.add 1) (Kd.one (Cmp.leaf (Leaf.int IntKind.i64))) h11 fun (n15 : Int) =>
                                  Idx s13.a s13.len (IntKind.i64.wrap (n15 - 1)) fun (p16 : Addr) =>
                                    Ld PG ty_uint8 (p16.add ((IntKind.i64.wrap (n15 - 1)).toNat * 1)) (Kd.one (Cmp.leaf (Leaf.int IntKind.u8))) h11 fun (n17 : Int) => Q n17 h11))
theorem eq_batch_pen_one (p : Option Addr) (h : Mem) (Q : Int → Mem → Prop) : wp_batch_pen_one p h Q = evFn PG fn_batch_pen_one tab_batch_pen_one [.pointer p] (.one (.leaf (.int .u8))) h Q := by kernel_rfl
theorem ok_batch_pen_one : okF PG fn_batch_pen_one tab_batch_pen_one = true := by kernel_rfl
theorem call_batch_pen_one {p : Option Addr} {h : Mem} {Q : Int → Mem → Prop} (w : wp_batch_pen_one p h Q) : CallF PG fn_batch_pen_one [.pointer p] (.one (.leaf (.int .u8))) h Q := callF_of PM ok_batch_pen_one (eq_batch_pen_one p h Q ▸ w)

/- 99: (*dunnage/batch.pen).fail -/
def tab_batch_pen_fail : Tab := ⟨[], [], []⟩
def wp_batch_pen_fail (p : Option Addr) (e : Int) (h : Mem) (Q : Mem → Prop) : Prop :=
  Deref p fun (p1 : Addr) =>
    Ld PG ty_api_Errno (p1.add 2) (Kd.one (Cmp.leaf (Leaf.int IntKind.i64))) h fun (n2 : Int) =>
      Br (n2 == 0) (Deref p fun (p3 : Addr) => St PG ty_api_Errno (p3.add 2) (Value.int IntKind.i64 e) h fun (h4 : Mem) => Q h4) (Q h)
theorem eq_batch_pen_fail (p : Option Addr) (e : Int) (h : Mem) (Q : Mem → Prop) : wp_batch_pen_fail p e h Q = evFn PG fn_batch_pen_fail tab_batch_pen_fail [.pointer p, .int .i64 e] (.tup []) h Q := by kernel_rfl
theorem ok_batch_pen_fail : okF PG fn_batch_pen_fail tab_batch_pen_fail = true := by kernel_rfl
theorem call_batch_pen_fail {p : Option Addr} {e : Int} {h : Mem} {Q : Mem → Prop} (w : wp_batch_pen_fail p e h Q) : CallF PG fn_batch_pen_fail [.pointer p, .int .i64 e] (.tup []) h Q := callF_of PM ok_batch_pen_fail (eq_batch_pen_fail p e h Q ▸ w)

/- 100: dunnage/batch.readers -/
def tab_batch_readers : Tab := ⟨[], [], []⟩
def wp_batch_readers  (h : Mem) (Q : Value → Value → Value → Mem → Prop) : Prop :=
  New (Obj.cells #[Value.nilFunc, Value.nilFunc, Value.nilFunc] ty_3_func_ptr_batch_pen_ptr_api_Record) h fun (k1 : Nat) (h2 : Mem) =>
    St PG ty_3_func_ptr_batch_pen_ptr_api_Record (Addr.mk k1 0 none) (Value.agg #[Value.nilFunc, Value.func (Fn.func fn_batch_pen_readBatch) #[] #[], Value.func (Fn.func fn_batch_pen_readMove) #[] #[]]) h2 fun (h3 : Mem) =>
      Ld PG ty_3_func_ptr_batch_pen_ptr_api_Record (Addr.mk k1 0 none) (Kd.one (Cmp.agg [Leaf.raw, Leaf.raw, Leaf.raw])) h3 fun (v4 v5 v6 : Value) => Q v4 v5 v6 h3
theorem eq_batch_readers  (h : Mem) (Q : Value → Value → Value → Mem → Prop) : wp_batch_readers  h Q = evFn PG fn_batch_readers tab_batch_readers [] (.one (.agg [.raw, .raw, .raw])) h Q := by kernel_rfl
theorem ok_batch_readers : okF PG fn_batch_readers tab_batch_readers = true := by kernel_rfl
theorem call_batch_readers {h : Mem} {Q : Value → Value → Value → Mem → Prop} (w : wp_batch_readers  h Q) : CallF PG fn_batch_readers [] (.one (.agg [.raw, .raw, .raw])) h Q := callF_of PM ok_batch_readers (eq_batch_readers  h Q ▸ w)

/- 101: (*dunnage/dunnageref01.Reader).Byte -/
def tab_dunnageref01_Reader_Byte : Tab := ⟨[], [], []⟩
def wp_dunnageref01_Reader_Byte (r : Option Addr) (h : Mem) (Q : Int → Mem → Prop) : Prop :=
  Deref r fun (p1 : Addr) =>
    Ld PG ty_api_Errno (p1.add 2) (Kd.one (Cmp.leaf (Leaf.int IntKind.i64))) h fun (n2 : Int) =>
      Br (n2 != 0) (Q 0 h)
        (Deref r fun (p3 : Addr) =>
          Ld PG ty_int (p3.add 1) (Kd.one (Cmp.leaf (Leaf.int IntKind.i64))) h fun (n4 : Int) =>
            Deref r fun (p5 : Addr) =>
              Ld PG ty_sl_uint8 p5 (Kd.one (Cmp.leaf Leaf.sl)) h fun (s6 : Sl) =>
                Br (decide (n4 ≥ (↑s6.len : Int))) (Deref r fun (p7 : Addr) => St PG ty_api_Errno (p7.add 2) (Value.int IntKind.i64 10) h fun (h8 : Mem) => Q 0 h8)
                  (Deref r fun (p9 : Addr) =>
                    Ld PG ty_int (p9.add 1) (Kd.one (Cmp.leaf (Leaf.int IntKind.i64))) h fun (n10 : Int) =>
                      Deref r fun (p11 : Addr) =>
                        St PG ty_int (p11.add 1) (Value.int IntKind.i64 (IntKind.i64.wrap (n10 + 1))) h fun (h12 : Mem) =>
                          Deref r fun (p13 : Addr) =>
                            Ld PG ty_sl_uint8 p13 (Kd.one (Cmp.leaf Leaf.sl)) h12 fun (s14 : Sl) =>
                              Deref r fun (p15 : Addr) =>
                                Ld PG ty_int (p15.add 1) (Kd.one (Cmp.leaf (Leaf.int IntKind.i64))) h12 fun (n16 : Int) =>
                                  Idx s14.a s14.len (IntKind.i64.wrap (n16 - 1)) fun (p17 : Addr) =>
                                    Ld PG ty_uint8 (p17.add ((IntKind.i64.wrap (n16 - 1)).toNat * 1)) (Kd.one (Cmp.leaf (Leaf.int IntKind.u8))) h12 fun (n18 : Int) => Q n18 h12))
theorem eq_dunnageref01_Reader_Byte (r : Option Addr) (h : Mem) (Q : Int → Mem → Prop) : wp_dunnageref01_Reader_Byte r h Q = evFn PG fn_dunnageref01_Reader_Byte tab_dunnageref01_Reader_Byte [.pointer r] (.one (.leaf (.int .u8))) h Q := by kernel_rfl
theorem ok_dunnageref01_Reader_Byte : okF PG fn_dunnageref01_Reader_Byte tab_dunnageref01_Reader_Byte = true := by kernel_rfl
theorem call_dunnageref01_Reader_Byte {r : Option Addr} {h : Mem} {Q : Int → Mem → Prop} (w : wp_dunnageref01_Reader_Byte r h Q) : CallF PG fn_dunnageref01_Reader_Byte [.pointer r] (.one (.leaf (.int .u8))) h Q := callF_of PM ok_dunnageref01_Reader_Byte (eq_dunnageref01_Reader_Byte r h Q ▸ w)

/- 102: (*dunnage/dunnageref01.Reader).Num -/
def tab_dunnageref01_Reader_Num : Tab := ⟨[], [], []⟩
def wp_dunnageref01_Reader_Num (r : Option Addr) (h : Mem) (Q : Int → Mem → Prop) : Prop :=
  Deref r fun (p1 : Addr) =>
    Ld PG ty_api_Errno (p1.add 2) (Kd.one (Cmp.leaf (Leaf.int IntKind.i64))) h fun (n2 : Int) =>
      Br (n2 != 0) (Q 0 h)
        (Deref r fun (p3 : Addr) =>
          Ld PG ty_sl_uint8 p3 (Kd.one (Cmp.leaf Leaf.sl)) h fun (s4 : Sl) =>
            Deref r fun (p5 : Addr) =>
              Ld PG ty_int (p5.add 1) (Kd.one (Cmp.leaf (Leaf.int IntKind.i64))) h fun (n6 : Int) =>
                CallF PG fn_dunnageref01_ReadVar [Value.slice s4.a s4.len s4.cap, Value.int IntKind.i64 n6]
                  (Kd.tup [Cmp.leaf (Leaf.int IntKind.u64), Cmp.leaf (Leaf.int IntKind.i64), Cmp.leaf (Leaf.int IntKind.i64)]) h fun (n7 n8 n9 : Int) (h10 : Mem) =>
                  Br (n9 != 0) (Deref r fun (p11 : Addr) => St PG ty_api_Errno (p11.add 2) (Value.int IntKind.i64 n9) h10 fun (h12 : Mem) => Q 0 h12)
                    (Deref r fun (p13 : Addr) => St PG ty_int (p13.add 1) (Value.int IntKind.i64 n8) h10 fun (h14 : Mem) => Q n7 h14))
theorem eq_dunnageref01_Reader_Num (r : Option Addr) (h : Mem) (Q : Int → Mem → Prop) : wp_dunnageref01_Reader_Num r h Q = evFn PG fn_dunnageref01_Reader_Num tab_dunnageref01_Reader_Num [.pointer r] (.one (.leaf (.int .u64))) h Q := by kernel_rfl
theorem ok_dunnageref01_Reader_Num : okF PG fn_dunnageref01_Reader_Num tab_dunnageref01_Reader_Num = true := by kernel_rfl
theorem call_dunnageref01_Reader_Num {r : Option Addr} {h : Mem} {Q : Int → Mem → Prop} (w : wp_dunnageref01_Reader_Num r h Q) : CallF PG fn_dunnageref01_Reader_Num [.pointer r] (.one (.leaf (.int .u64))) h Q := callF_of PM ok_dunnageref01_Reader_Num (eq_dunnageref01_Reader_Num r h Q ▸ w)

/- 103: (*dunnage/dunnageref01.Reader).Most -/
def tab_dunnageref01_Reader_Most : Tab := ⟨[], [], []⟩
def wp_dunnageref01_Reader_Most (r : Option Addr) (most : Int) (h : Mem) (Q : Int → Mem → Prop) : Prop :=
  CallF PG fn_dunnageref01_Reader_Num [Value.pointer r] (Kd.one (Cmp.leaf (Leaf.int IntKind.u64))) h fun (n1 : Int) (h2 : Mem) =>
    Deref r fun (p3 : Addr) =>
      Ld PG ty_api_Errno (p3.add 2) (Kd.one (Cmp.leaf (Leaf.int IntKind.i64))) h2 fun (n4 : Int) =>
        Br (n4 == 0)
          (Br (decide (n1 > most))
            (Deref r fun (p5 : Addr) =>
              St PG ty_api_Errno (p5.add 2) (Value.int IntKind.i64 11) h2 fun (h6 : Mem) =>
                Deref r fun (p7 : Addr) =>
                  Ld PG ty_api_Errno (p7.add 2) (Kd.one (Cmp.leaf (Leaf.int IntKind.i64))) h6 fun (n8 : Int) => Br (n8 != 0) (Q 0 h6) (Q (IntKind.i64.wrap n1) h6))
            (Deref r fun (p9 : Addr) =>
              Ld PG ty_api_Errno (p9.add 2) (Kd.one (Cmp.leaf (Leaf.int IntKind.i64))) h2 fun (n10 : Int) => Br (n10 != 0) (Q 0 h2) (Q (IntKind.i64.wrap n1) h2)))
          (Deref r fun (p11 : Addr) =>
            Ld PG ty_api_Errno (p11.add 2) (Kd.one (Cmp.leaf (Leaf.int IntKind.i64))) h2 fun (n12 : Int) => Br (n12 != 0) (Q 0 h2) (Q (IntKind.i64.wrap n1) h2))
theorem eq_dunnageref01_Reader_Most (r : Option Addr) (most : Int) (h : Mem) (Q : Int → Mem → Prop) : wp_dunnageref01_Reader_Most r most h Q = evFn PG fn_dunnageref01_Reader_Most tab_dunnageref01_Reader_Most [.pointer r, .int .u64 most] (.one (.leaf (.int .i64))) h Q := by kernel_rfl
theorem ok_dunnageref01_Reader_Most : okF PG fn_dunnageref01_Reader_Most tab_dunnageref01_Reader_Most = true := by kernel_rfl
theorem call_dunnageref01_Reader_Most {r : Option Addr} {most : Int} {h : Mem} {Q : Int → Mem → Prop} (w : wp_dunnageref01_Reader_Most r most h Q) : CallF PG fn_dunnageref01_Reader_Most [.pointer r, .int .u64 most] (.one (.leaf (.int .i64))) h Q := callF_of PM ok_dunnageref01_Reader_Most (eq_dunnageref01_Reader_Most r most h Q ▸ w)

/- 104: dunnage/dunnageref10.change -/
def tab_dunnageref10_change : Tab := ⟨[], [], []⟩
def wp_dunnageref10_change (r : Option Addr) (h : Mem) (Q : ByteArray → Int → Int → Int → Bool → Mem → Prop) : Prop :=
  New (Obj.cells #[Value.string (ByteArray.mk #[]), Value.int IntKind.u64 0, Value.int IntKind.i64 0, Value.int IntKind.i64 0, Value.bool false] ty_api_Change) h fun (k1 : Nat) (h2 : Mem) =>
    CallF PG fn_dunnageref01_Reader_Text [Value.pointer r, Value.int IntKind.i64 64] (Kd.one (Cmp.leaf Leaf.sl)) h2 fun (s3 : Sl) (h4 : Mem) =>
      ReadT PG (Conv.bytesToString (Value.slice s3.a s3.len s3.cap)) (Kd.one (Cmp.leaf Leaf.str)) h4 fun (t5 : ByteArray) =>
        New (Obj.cells #[Value.string (ByteArray.mk #[]), Value.int IntKind.u64 0, Value.int IntKind.i64 0, Value.int IntKind.i64 0, Value.bool false] ty_api_Change) h4
          fun (k6 : Nat) (h7 : Mem) =>
          St PG ty_api_Change (Addr.mk k6 0 none) (Value.agg #[Value.string t5, Value.int IntKind.u64 0, Value.int IntKind.i64 0, Value.int IntKind.i64 0, Value.bool false]) h7
            fun (h8 : Mem) =>
            CallF PG fn_dunnageref01_Reader_Byte [Value.pointer r] (Kd.one (Cmp.leaf (Leaf.int IntKind.u8))) h8 fun (n9 : Int) (h10 : Mem) =>
              Deref r fun (p11 : Addr) =>
                Ld PG ty_api_Errno (p11.add 2) (Kd.one (Cmp.leaf (Leaf.int IntKind.i64))) h10 fun (n12 : Int) =>
                  Br (n12 == 0)
                    (Br (decide (n9 > 1))
                      (Deref r fun (p13 : Addr) =>
                        St PG ty_api_Errno (p13.add 2) (Value.int IntKind.i64 11) h10 fun (h14 : Mem) =>
                          Br (n9 == 1)
                            (St PG ty_bool ((Addr.mk k6 0 none).add 4) (Value.bool true) h14 fun (h15 : Mem) =>
                              Ld PG ty_api_Change (Addr.mk k6 0 none) (Kd.one (Cmp.agg [Leaf.str, Leaf.int IntKind.u64, Leaf.int IntKind.i64, Leaf.int IntKind.i64, Leaf.bool])) h15
                                fun (t16 : ByteArray) (n17 n18 n19 : Int) (b20 : Bool) =>
                                St PG ty_api_Change (Addr.mk k1 0 none)
                                  (Value.agg #[Value.string t16, Value.int IntKind.u64 n17, Value.int IntKind.i64 n18, Value.int IntKind.i64 n19, Value.bool b20]) h15
                                  fun (h21 : Mem) =>
                                  Ld PG ty_api_Change (Addr.mk k1 0 none) (Kd.one (Cmp.agg [Leaf.str, Leaf.int IntKind.u64, Leaf.int IntKind.i64, Leaf.int IntKind.i64, Leaf.bool])) h21
                                    fun (t22 : ByteArray) (n23 n24 n25 : Int) (b26 : Bool) => Q t22 n23 n24 n25 b26 h21)
                            (CallF PG fn_dunnageref01_Reader_Num [Value.pointer r] (Kd.one (Cmp.leaf (Leaf.int IntKind.u64))) h14 fun (n27 : Int) (h28 : Mem) =>
                              St PG ty_uint64 ((Addr.mk k6 0 none).add 1) (Value.int IntKind.u64 n27) h28 fun (h29 : Mem) =>
                                CallF PG fn_dunnageref01_Reader_Most [Value.pointer r, Value.int IntKind.u64 4611686018427387904] (Kd.one (Cmp.leaf (Leaf.int IntKind.i64))) h29
                                  fun (n30 : Int) (h31 : Mem) =>
                                  St PG ty_int (((Addr.mk k6 0 none).add 1).add 1) (Value.int IntKind.i64 n30) h31 fun (h32 : Mem) =>
                                    CallF PG fn_dunnageref01_Reader_Most [Value.pointer r, Value.int IntKind.u64 4611686018427387904] (Kd.one (Cmp.leaf (Leaf.int IntKind.i64))) h32
                                      fun (n33 : Int) (h34 : Mem) =>
                                      St PG ty_int (((Addr.mk k6 0 none).add 1).add 2) (Value.int IntKind.i64 n33) h34 fun (h35 : Mem) =>
                                        Ld PG ty_api_Change (Addr.mk k6 0 none) (Kd.one (Cmp.agg [Leaf.str, Leaf.int IntKind.u64, Leaf.int IntKind.i64, Leaf.int IntKind.i64, Leaf.bool]))
                                          h35 fun (t36 : ByteArray) (n37 n38 n39 : Int) (b40 : Bool) =>
                                          St PG ty_api_Change (Addr.mk k1 0 none)
                                            (Value.agg #[Value.string t36, Value.int IntKind.u64 n37, Value.int IntKind.i64 n38, Value.int IntKind.i64 n39, Value.bool b40]) h35
                                            fun (h41 : Mem) =>
                                            Ld PG ty_api_Change (Addr.mk k1 0 none)
                                              (Kd.one (Cmp.agg [Leaf.str, Leaf.int IntKind.u64, Leaf.int IntKind.i64, Leaf.int IntKind.i64, Leaf.bool])) h41
                                              fun (t42 : ByteArray) (n43 n44 n45 : Int) (b46 : Bool) => Q t42 n43 n44 n45 b46 h41))
                      (Br (n9 == 1)
                        (St PG ty_bool ((Addr.mk k6 0 none).add 4) (Value.bool true) h10 fun (h47 : Mem) =>
                          Ld PG ty_api_Change (Addr.mk k6 0 none) (Kd.one (Cmp.agg [Leaf.str, Leaf.int IntKind.u64, Leaf.int IntKind.i64, Leaf.int IntKind.i64, Leaf.bool])) h47
                            fun (t48 : ByteArray) (n49 n50 n51 : Int) (b52 : Bool) =>
                            St PG ty_api_Change (Addr.mk k1 0 none)
                              (Value.agg #[Value.string t48, Value.int IntKind.u64 n49, Value.int IntKind.i64 n50, Value.int IntKind.i64 n51, Value.bool b52]) h47 fun (h53 : Mem) =>
                              Ld PG ty_api_Change (Addr.mk k1 0 none) (Kd.one (Cmp.agg [Leaf.str, Leaf.int IntKind.u64, Leaf.int IntKind.i64, Leaf.int IntKind.i64, Leaf.bool])) h53
                                fun (t54 : ByteArray) (n55 n56 n57 : Int) (b58 : Bool) => Q t54 n55 n56 n57 b58 h53)
                        (CallF PG fn_dunnageref01_Reader_Num [Value.pointer r] (Kd.one (Cmp.leaf (Leaf.int IntKind.u64))) h10 fun (n59 : Int) (h60 : Mem) =>
                          St PG ty_uint64 ((Addr.mk k6 0 none).add 1) (Value.int IntKind.u64 n59) h60 fun (h61 : Mem) =>
                            CallF PG fn_dunnageref01_Reader_Most [Value.pointer r, Value.int IntKind.u64 4611686018427387904] (Kd.one (Cmp.leaf (Leaf.int IntKind.i64))) h61
                              fun (n62 : Int) (h63 : Mem) =>
                              St PG ty_int (((Addr.mk k6 0 none).add 1).add 1) (Value.int IntKind.i64 n62) h63 fun (h64 : Mem) =>
                                CallF PG fn_dunnageref01_Reader_Most [Value.pointer r, Value.int IntKind.u64 4611686018427387904] (Kd.one (Cmp.leaf (Leaf.int IntKind.i64))) h64
                                  fun (n65 : Int) (h66 : Mem) =>
                                  St PG ty_int (((Addr.mk k6 0 none).add 1).add 2) (Value.int IntKind.i64 n65) h66 fun (h67 : Mem) =>
                                    Ld PG ty_api_Change (Addr.mk k6 0 none) (Kd.one (Cmp.agg [Leaf.str, Leaf.int IntKind.u64, Leaf.int IntKind.i64, Leaf.int IntKind.i64, Leaf.bool])) h67
                                      fun (t68 : ByteArray) (n69 n70 n71 : Int) (b72 : Bool) =>
                                      St PG ty_api_Change (Addr.mk k1 0 none)
                                        (Value.agg #[Value.string t68, Value.int IntKind.u64 n69, Value.int IntKind.i64 n70, Value.int IntKind.i64 n71, Value.bool b72]) h67
                                        fun (h73 : Mem) =>
                                        Ld PG ty_api_Change (Addr.mk k1 0 none) (Kd.one (Cmp.agg [Leaf.str, Leaf.int IntKind.u64, Leaf.int IntKind.i64, Leaf.int IntKind.i64, Leaf.bool]))
                                          h73 fun (t74 : ByteArray) (n75 n76 n77 : Int) (b78 : Bool) => Q t74 n75 n76 n77 b78 h73)))
                    (Br (n9 == 1)
                      (St PG ty_bool ((Addr.mk k6 0 none).add 4) (Value.bool true) h10 fun (h79 : Mem) =>
                        Ld PG ty_api_Change (Addr.mk k6 0 none) (Kd.one (Cmp.agg [Leaf.str, Leaf.int IntKind.u64, Leaf.int IntKind.i64, Leaf.int IntKind.i64, Leaf.bool])) h79
                          fun (t80 : ByteArray) (n81 n82 n83 : Int) (b84 : Bool) =>
                          St PG ty_api_Change (Addr.mk k1 0 none)
                            (Value.agg #[Value.string t80, Value.int IntKind.u64 n81, Value.int IntKind.i64 n82, Value.int IntKind.i64 n83, Value.bool b84]) h79 fun (h85 : Mem) =>
                            Ld PG ty_api_Change (Addr.mk k1 0 none) (Kd.one (Cmp.agg [Leaf.str, Leaf.int IntKind.u64, Leaf.int IntKind.i64, Leaf.int IntKind.i64, Leaf.bool])) h85
                              fun (t86 : ByteArray) (n87 n88 n89 : Int) (b90 : Bool) => Q t86 n87 n88 n89 b90 h85)
                      (CallF PG fn_dunnageref01_Reader_Num [Value.pointer r] (Kd.one (Cmp.leaf (Leaf.int IntKind.u64))) h10 fun (n91 : Int) (h92 : Mem) =>
                        St PG ty_uint64 ((Addr.mk k6 0 none).add 1) (Value.int IntKind.u64 n91) h92 fun (h93 : Mem) =>
                          CallF PG fn_dunnageref01_Reader_Most [Value.pointer r, Value.int IntKind.u64 4611686018427387904] (Kd.one (Cmp.leaf (Leaf.int IntKind.i64))) h93
                            fun (n94 : Int) (h95 : Mem) =>
                            St PG ty_int (((Addr.mk k6 0 none).add 1).add 1) (Value.int IntKind.i64 n94) h95 fun (h96 : Mem) =>
                              CallF PG fn_dunnageref01_Reader_Most [Value.pointer r, Value.int IntKind.u64 4611686018427387904] (Kd.one (Cmp.leaf (Leaf.int IntKind.i64))) h96
                                fun (n97 : Int) (h98 : Mem) =>
                                St PG ty_int (((Addr.mk k6 0 none).add 1).add 2) (Value.int IntKind.i64 n97) h98 fun (h99 : Mem) =>
                                  Ld PG ty_api_Change (Addr.mk k6 0 none) (Kd.one (Cmp.agg [Leaf.str, Leaf.int IntKind.u64, Leaf.int IntKind.i64, Leaf.int IntKind.i64, Leaf.bool])) h99
                                    fun (t100 : ByteArray) (n101 n102 n103 : Int) (b104 : Bool) =>
                                    St PG ty_api_Change (Addr.mk k1 0 none)
                                      (Value.agg #[Value.string t100, Value.int IntKind.u64 n101, Value.int IntKind.i64 n102, Value.int IntKind.i64 n103, Value.bool b104]) h99
                                      fun (h105 : Mem) =>
                                      Ld PG ty_api_Change (Addr.mk k1 0 none) (Kd.one (Cmp.agg [Leaf.str, Leaf.int IntKind.u64, Leaf.int IntKind.i64, Leaf.int IntKind.i64, Leaf.bool]))
                                        h105 fun (t106 : ByteArray) (n107 n108 n109 : Int) (b110 : Bool) => Q t106 n107 n108 n109 b110 h105))
theorem eq_dunnageref10_change (r : Option Addr) (h : Mem) (Q : ByteArray → Int → Int → Int → Bool → Mem → Prop) : wp_dunnageref10_change r h Q = evFn PG fn_dunnageref10_change tab_dunnageref10_change [.pointer r] (.one (.agg [.str, (.int .u64), (.int .i64), (.int .i64), .bool])) h Q := by kernel_rfl
theorem ok_dunnageref10_change : okF PG fn_dunnageref10_change tab_dunnageref10_change = true := by kernel_rfl
theorem call_dunnageref10_change {r : Option Addr} {h : Mem} {Q : ByteArray → Int → Int → Int → Bool → Mem → Prop} (w : wp_dunnageref10_change r h Q) : CallF PG fn_dunnageref10_change [.pointer r] (.one (.agg [.str, (.int .u64), (.int .i64), (.int .i64), .bool])) h Q := callF_of PM ok_dunnageref10_change (eq_dunnageref10_change r h Q ▸ w)

/- 105: (*dunnage/dunnageref01.Reader).Left -/
def tab_dunnageref01_Reader_Left : Tab := ⟨[], [], []⟩
def wp_dunnageref01_Reader_Left (r : Option Addr) (h : Mem) (Q : Int → Mem → Prop) : Prop :=
  Deref r fun (p1 : Addr) =>
    Ld PG ty_sl_uint8 p1 (Kd.one (Cmp.leaf Leaf.sl)) h fun (s2 : Sl) =>
      Deref r fun (p3 : Addr) => Ld PG ty_int (p3.add 1) (Kd.one (Cmp.leaf (Leaf.int IntKind.i64))) h fun (n4 : Int) => Q (IntKind.i64.wrap ((↑s2.len : Int) - n4)) h
theorem eq_dunnageref01_Reader_Left (r : Option Addr) (h : Mem) (Q : Int → Mem → Prop) : wp_dunnageref01_Reader_Left r h Q = evFn PG fn_dunnageref01_Reader_Left tab_dunnageref01_Reader_Left [.pointer r] (.one (.leaf (.int .i64))) h Q := by kernel_rfl
theorem ok_dunnageref01_Reader_Left : okF PG fn_dunnageref01_Reader_Left tab_dunnageref01_Reader_Left = true := by kernel_rfl
theorem call_dunnageref01_Reader_Left {r : Option Addr} {h : Mem} {Q : Int → Mem → Prop} (w : wp_dunnageref01_Reader_Left r h Q) : CallF PG fn_dunnageref01_Reader_Left [.pointer r] (.one (.leaf (.int .i64))) h Q := callF_of PM ok_dunnageref01_Reader_Left (eq_dunnageref01_Reader_Left r h Q ▸ w)

/- 106: dunnage/dunnagehelp.Plain[byte] -/
def tab_dunnagehelp_Plain_byte_ : Tab := ⟨[], [], []⟩
def wp_dunnagehelp_Plain_byte_ (a : Sl) (b : Sl) (h : Mem) (Q : Bool → Mem → Prop) : Prop :=
  CallF PG fn_dunnagehelp_Same_byte_ [Value.slice a.a a.len a.cap, Value.slice b.a b.len b.cap, Value.func (Fn.func fn_dunnagehelp_Plain_byte_1) #[] #[]] (Kd.one (Cmp.leaf Leaf.bool)) h fun (b1 : Bool) (h2 : Mem) =>
    Q b1 h2
theorem eq_dunnagehelp_Plain_byte_ (a : Sl) (b : Sl) (h : Mem) (Q : Bool → Mem → Prop) : wp_dunnagehelp_Plain_byte_ a b h Q = evFn PG fn_dunnagehelp_Plain_byte_ tab_dunnagehelp_Plain_byte_ [.slice a.a a.len a.cap, .slice b.a b.len b.cap] (.one (.leaf .bool)) h Q := by kernel_rfl
theorem ok_dunnagehelp_Plain_byte_ : okF PG fn_dunnagehelp_Plain_byte_ tab_dunnagehelp_Plain_byte_ = true := by kernel_rfl
theorem call_dunnagehelp_Plain_byte_ {a : Sl} {b : Sl} {h : Mem} {Q : Bool → Mem → Prop} (w : wp_dunnagehelp_Plain_byte_ a b h Q) : CallF PG fn_dunnagehelp_Plain_byte_ [.slice a.a a.len a.cap, .slice b.a b.len b.cap] (.one (.leaf .bool)) h Q := callF_of PM ok_dunnagehelp_Plain_byte_ (eq_dunnagehelp_Plain_byte_ a b h Q ▸ w)

/- 107: bytes.Equal -/
def tab_bytes_Equal : Tab := ⟨[], [], []⟩
def wp_bytes_Equal (a : Sl) (b : Sl) (h : Mem) (Q : Bool → Mem → Prop) : Prop :=
  ReadT PG (Conv.bytesToString (Value.slice a.a a.len a.cap)) (Kd.one (Cmp.leaf Leaf.str)) h fun (t1 : ByteArray) =>
    ReadT PG (Conv.bytesToString (Value.slice b.a b.len b.cap)) (Kd.one (Cmp.leaf Leaf.str)) h fun (t2 : ByteArray) => Q (sEq t1 t2) h
theorem eq_bytes_Equal (a : Sl) (b : Sl) (h : Mem) (Q : Bool → Mem → Prop) : wp_bytes_Equal a b h Q = evFn PG fn_bytes_Equal tab_bytes_Equal [.slice a.a a.len a.cap, .slice b.a b.len b.cap] (.one (.leaf .bool)) h Q := by kernel_rfl
theorem ok_bytes_Equal : okF PG fn_bytes_Equal tab_bytes_Equal = true := by kernel_rfl
theorem call_bytes_Equal {a : Sl} {b : Sl} {h : Mem} {Q : Bool → Mem → Prop} (w : wp_bytes_Equal a b h Q) : CallF PG fn_bytes_Equal [.slice a.a a.len a.cap, .slice b.a b.len b.cap] (.one (.leaf .bool)) h Q := callF_of PM ok_bytes_Equal (eq_bytes_Equal a b h Q ▸ w)

/- 108: dunnage/dunnagehelp.Same[dunnage/api.Diff]; loop 4: [i] -/
def tab_dunnagehelp_Same_api_Diff_ : Tab := ⟨[(4, ⟨[(7, .leaf (.int .i64))], [6, 13, 14, 15, 16, 17, 18, 19, 20, 21, 22, 23, 24, 25, 26, 27, 28, 29]⟩)], [], []⟩
def wp_dunnagehelp_Same_api_Diff_ (a : Sl) (b : Sl) (one : Value) (h : Mem) (Q : Bool → Mem → Prop) : Prop :=
  Br ((↑a.len : Int) != (↑b.len : Int)) (Q false h)
    (∃ (I1 : Int → Mem → Prop),
      ∃ (I2 : Int → Mem → Nat),
        I1 0 h ∧
          ∀ (j3 : Fr) (n4 : Int) (h5 : Mem),
            I1 n4 h5 →
              Br (decide (n4 < (↑a.len : Int)))
                (Idx a.a a.len n4 fun (p6 : Addr) =>
                  Ld PG ty_api_Diff (p6.add (n4.toNat * 5)) (Kd.one (Cmp.agg [Leaf.str, Leaf.bool, Leaf.bool, Leaf.sl, Leaf.sl])) h5
                    fun (t7 : ByteArray) (b8 b9 : Bool) (s10 s11 : Sl) =>
                    Idx b.a b.len n4 fun (p12 : Addr) =>
                      Ld PG ty_api_Diff (p12.add (n4.toNat * 5)) (Kd.one (Cmp.agg [Leaf.str, Leaf.bool, Leaf.bool, Leaf.sl, Leaf.sl])) h5
                        fun (t13 : ByteArray) (b14 b15 : Bool) (s16 s17 : Sl) =>
                        CallV PG one
                          [Value.agg #[Value.string t7, Value.bool b8, Value.bool b9, Value.slice s10.a s10.len s10.cap, Value.slice s11.a s11.len s11.cap],
                            Value.agg #[Value.string t13, Value.bool b14, Value.bool b15, Value.slice s16.a s16.len s16.cap, Value.slice s17.a s17.len s17.cap]]
                          (Kd.one (Cmp.leaf Leaf.bool)) h5 fun (b18 : Bool) (h19 : Mem) =>
                          Br (!b18) (Q false h19) (I1 (IntKind.i64.wrap (n4 + 1)) h19 ∧ I2 (IntKind.i64.wrap (n4 + 1)) h19 < I2 n4 h5))
                (Q true h5))
theorem eq_dunnagehelp_Same_api_Diff_ (a : Sl) (b : Sl) (one : Value) (h : Mem) (Q : Bool → Mem → Prop) : wp_dunnagehelp_Same_api_Diff_ a b one h Q = evFn PG fn_dunnagehelp_Same_api_Diff_ tab_dunnagehelp_Same_api_Diff_ [.slice a.a a.len a.cap, .slice b.a b.len b.cap, one] (.one (.leaf .bool)) h Q := by kernel_rfl
theorem ok_dunnagehelp_Same_api_Diff_ : okF PG fn_dunnagehelp_Same_api_Diff_ tab_dunnagehelp_Same_api_Diff_ = true := by kernel_rfl
theorem call_dunnagehelp_Same_api_Diff_ {a : Sl} {b : Sl} {one : Value} {h : Mem} {Q : Bool → Mem → Prop} (w : wp_dunnagehelp_Same_api_Diff_ a b one h Q) : CallF PG fn_dunnagehelp_Same_api_Diff_ [.slice a.a a.len a.cap, .slice b.a b.len b.cap, one] (.one (.leaf .bool)) h Q := callF_of PM ok_dunnagehelp_Same_api_Diff_ (eq_dunnagehelp_Same_api_Diff_ a b one h Q ▸ w)

/- 109: dunnage/dunnagehelp.Diff -/
def tab_dunnagehelp_Diff : Tab := ⟨[], [], []⟩
def wp_dunnagehelp_Diff (a_0 : ByteArray) (a_1 : Bool) (a_2 : Bool) (a_3 : Sl) (a_4 : Sl) (b_0 : ByteArray) (b_1 : Bool) (b_2 : Bool) (b_3 : Sl) (b_4 : Sl) (h : Mem) (Q : Bool → Mem → Prop) : Prop :=
  New (Obj.cells #[Value.string a_0, Value.bool a_1, Value.bool a_2, Value.slice a_3.a a_3.len a_3.cap, Value.slice a_4.a a_4.len a_4.cap] ty_api_Diff) h fun (k1 : Nat) (h2 : Mem) =>
    New (Obj.cells #[Value.string b_0, Value.bool b_1, Value.bool b_2, Value.slice b_3.a b_3.len b_3.cap, Value.slice b_4.a b_4.len b_4.cap] ty_api_Diff) h2 fun (k3 : Nat) (h4 : Mem) =>
      Ld PG ty_string (Addr.mk k1 0 none) (Kd.one (Cmp.leaf Leaf.str)) h4 fun (t5 : ByteArray) =>
        Ld PG ty_string (Addr.mk k3 0 none) (Kd.one (Cmp.leaf Leaf.str)) h4 fun (t6 : ByteArray) =>
          Br (sEq t5 t6)
            (Ld PG ty_bool ((Addr.mk k1 0 none).add 1) (Kd.one (Cmp.leaf Leaf.bool)) h4 fun (b7 : Bool) =>
              Ld PG ty_bool ((Addr.mk k3 0 none).add 1) (Kd.one (Cmp.leaf Leaf.bool)) h4 fun (b8 : Bool) =>
                Br (b7 == b8)
                  (Ld PG ty_bool ((Addr.mk k1 0 none).add 2) (Kd.one (Cmp.leaf Leaf.bool)) h4 fun (b9 : Bool) =>
                    Ld PG ty_bool ((Addr.mk k3 0 none).add 2) (Kd.one (Cmp.leaf Leaf.bool)) h4 fun (b10 : Bool) =>
                      Br (b9 == b10)
                        (Ld PG ty_sl_uint8 ((Addr.mk k1 0 none).add 3) (Kd.one (Cmp.leaf Leaf.sl)) h4 fun (s11 : Sl) =>
                          Ld PG ty_sl_uint8 ((Addr.mk k3 0 none).add 3) (Kd.one (Cmp.leaf Leaf.sl)) h4 fun (s12 : Sl) =>
                            CallF PG fn_dunnagehelp_Bytes [Value.slice s11.a s11.len s11.cap, Value.slice s12.a s12.len s12.cap] (Kd.one (Cmp.leaf Leaf.bool)) h4 fun (b13 : Bool) (h14 : Mem) =>
                              Br b13
                                (Ld PG ty_sl_uint8 ((Addr.mk k1 0 none).add 4) (Kd.one (Cmp.leaf Leaf.sl)) h14 fun (s15 : Sl) =>
                                  Ld PG ty_sl_uint8 ((Addr.mk k3 0 none).add 4) (Kd.one (Cmp.leaf Leaf.sl)) h14 fun (s16 : Sl) =>
                                    CallF PG fn_dunnagehelp_Bytes [Value.slice s15.a s15.len s15.cap, Value.slice s16.a s16.len s16.cap] (Kd.one (Cmp.leaf Leaf.bool)) h14
                                      fun (b17 : Bool) (h18 : Mem) => Q b17 h18)
                                (Q false h14))
                        (Q false h4))
                  (Q false h4))
            (Q false h4)
theorem eq_dunnagehelp_Diff (a_0 : ByteArray) (a_1 : Bool) (a_2 : Bool) (a_3 : Sl) (a_4 : Sl) (b_0 : ByteArray) (b_1 : Bool) (b_2 : Bool) (b_3 : Sl) (b_4 : Sl) (h : Mem) (Q : Bool → Mem → Prop) : wp_dunnagehelp_Diff a_0 a_1 a_2 a_3 a_4 b_0 b_1 b_2 b_3 b_4 h Q = evFn PG fn_dunnagehelp_Diff tab_dunnagehelp_Diff [.agg #[.string a_0, .bool a_1, .bool a_2, .slice a_3.a a_3.len a_3.cap, .slice a_4.a a_4.len a_4.cap], .agg #[.string b_0, .bool b_1, .bool b_2, .slice b_3.a b_3.len b_3.cap, .slice b_4.a b_4.len b_4.cap]] (.one (.leaf .bool)) h Q := by kernel_rfl
theorem ok_dunnagehelp_Diff : okF PG fn_dunnagehelp_Diff tab_dunnagehelp_Diff = true := by kernel_rfl
theorem call_dunnagehelp_Diff {a_0 : ByteArray} {a_1 : Bool} {a_2 : Bool} {a_3 : Sl} {a_4 : Sl} {b_0 : ByteArray} {b_1 : Bool} {b_2 : Bool} {b_3 : Sl} {b_4 : Sl} {h : Mem} {Q : Bool → Mem → Prop} (w : wp_dunnagehelp_Diff a_0 a_1 a_2 a_3 a_4 b_0 b_1 b_2 b_3 b_4 h Q) : CallF PG fn_dunnagehelp_Diff [.agg #[.string a_0, .bool a_1, .bool a_2, .slice a_3.a a_3.len a_3.cap, .slice a_4.a a_4.len a_4.cap], .agg #[.string b_0, .bool b_1, .bool b_2, .slice b_3.a b_3.len b_3.cap, .slice b_4.a b_4.len b_4.cap]] (.one (.leaf .bool)) h Q := callF_of PM ok_dunnagehelp_Diff (eq_dunnagehelp_Diff a_0 a_1 a_2 a_3 a_4 b_0 b_1 b_2 b_3 b_4 h Q ▸ w)

/- 110: slices.SortFunc[[]dunnage/api.Op,dunnage/api.Op] -/
def tab_slices_SortFunc_api_Op_api_Op_ : Tab := ⟨[], [], []⟩
def wp_slices_SortFunc_api_Op_api_Op_ (x : Sl) (cmp : Value) (h : Mem) (Q : Mem → Prop) : Prop :=
  CallF PG fn_math_bits_Len [Value.int IntKind.u64 (IntKind.u64.wrap (↑x.len : Int))] (Kd.one (Cmp.leaf (Leaf.int IntKind.i64))) h fun (n1 : Int) (h2 : Mem) =>
    CallF PG fn_slices_pdqsortCmpFunc_api_Op_ [Value.slice x.a x.len x.cap, Value.int IntKind.i64 0, Value.int IntKind.i64 (↑x.len : Int), Value.int IntKind.i64 n1, cmp] (Kd.tup []) h2 fun (h3 : Mem) =>
      Q h3
theorem eq_slices_SortFunc_api_Op_api_Op_ (x : Sl) (cmp : Value) (h : Mem) (Q : Mem → Prop) : wp_slices_SortFunc_api_Op_api_Op_ x cmp h Q = evFn PG fn_slices_SortFunc_api_Op_api_Op_ tab_slices_SortFunc_api_Op_api_Op_ [.slice x.a x.len x.cap, cmp] (.tup []) h Q := by kernel_rfl
theorem ok_slices_SortFunc_api_Op_api_Op_ : okF PG fn_slices_SortFunc_api_Op_api_Op_ tab_slices_SortFunc_api_Op_api_Op_ = true := by kernel_rfl
theorem call_slices_SortFunc_api_Op_api_Op_ {x : Sl} {cmp : Value} {h : Mem} {Q : Mem → Prop} (w : wp_slices_SortFunc_api_Op_api_Op_ x cmp h Q) : CallF PG fn_slices_SortFunc_api_Op_api_Op_ [.slice x.a x.len x.cap, cmp] (.tup []) h Q := callF_of PM ok_slices_SortFunc_api_Op_api_Op_ (eq_slices_SortFunc_api_Op_api_Op_ x cmp h Q ▸ w)

/- 111: dunnage/batch.Last$1 -/
def tab_batch_Last_1 : Tab := ⟨[], [], []⟩
def wp_batch_Last_1 (a_0 : ByteArray) (a_1 : Sl) (a_2 : Bool) (b_0 : ByteArray) (b_1 : Sl) (b_2 : Bool) (h : Mem) (Q : Int → Mem → Prop) : Prop :=
  New (Obj.cells #[Value.string a_0, Value.slice a_1.a a_1.len a_1.cap, Value.bool a_2] ty_api_Op) h fun (k1 : Nat) (h2 : Mem) =>
    New (Obj.cells #[Value.string b_0, Value.slice b_1.a b_1.len b_1.cap, Value.bool b_2] ty_api_Op) h2 fun (k3 : Nat) (h4 : Mem) =>
      Ld PG ty_string (Addr.mk k1 0 none) (Kd.one (Cmp.leaf Leaf.str)) h4 fun (t5 : ByteArray) =>
        Ld PG ty_string (Addr.mk k3 0 none) (Kd.one (Cmp.leaf Leaf.str)) h4 fun (t6 : ByteArray) =>
          CallF PG fn_strings_Compare [Value.string t5, Value.string t6] (Kd.one (Cmp.leaf (Leaf.int IntKind.i64))) h4 fun (n7 : Int) (h8 : Mem) => Q n7 h8
theorem eq_batch_Last_1 (a_0 : ByteArray) (a_1 : Sl) (a_2 : Bool) (b_0 : ByteArray) (b_1 : Sl) (b_2 : Bool) (h : Mem) (Q : Int → Mem → Prop) : wp_batch_Last_1 a_0 a_1 a_2 b_0 b_1 b_2 h Q = evFn PG fn_batch_Last_1 tab_batch_Last_1 [.agg #[.string a_0, .slice a_1.a a_1.len a_1.cap, .bool a_2], .agg #[.string b_0, .slice b_1.a b_1.len b_1.cap, .bool b_2]] (.one (.leaf (.int .i64))) h Q := by kernel_rfl
theorem ok_batch_Last_1 : okF PG fn_batch_Last_1 tab_batch_Last_1 = true := by kernel_rfl
theorem call_batch_Last_1 {a_0 : ByteArray} {a_1 : Sl} {a_2 : Bool} {b_0 : ByteArray} {b_1 : Sl} {b_2 : Bool} {h : Mem} {Q : Int → Mem → Prop} (w : wp_batch_Last_1 a_0 a_1 a_2 b_0 b_1 b_2 h Q) : CallF PG fn_batch_Last_1 [.agg #[.string a_0, .slice a_1.a a_1.len a_1.cap, .bool a_2], .agg #[.string b_0, .slice b_1.a b_1.len b_1.cap, .bool b_2]] (.one (.leaf (.int .i64))) h Q := callF_of PM ok_batch_Last_1 (eq_batch_Last_1 a_0 a_1 a_2 b_0 b_1 b_2 h Q ▸ w)

/- 112: strings.Compare -/
def tab_strings_Compare : Tab := ⟨[], [], []⟩
def wp_strings_Compare (a : ByteArray) (b : ByteArray) (h : Mem) (Q : Int → Mem → Prop) : Prop :=
  CallF PG fn_internal_bytealg_CompareString [Value.string a, Value.string b] (Kd.one (Cmp.leaf (Leaf.int IntKind.i64))) h fun (n1 : Int) (h2 : Mem) => Q n1 h2
theorem eq_strings_Compare (a : ByteArray) (b : ByteArray) (h : Mem) (Q : Int → Mem → Prop) : wp_strings_Compare a b h Q = evFn PG fn_strings_Compare tab_strings_Compare [.string a, .string b] (.one (.leaf (.int .i64))) h Q := by kernel_rfl
theorem ok_strings_Compare : okF PG fn_strings_Compare tab_strings_Compare = true := by kernel_rfl
theorem call_strings_Compare {a : ByteArray} {b : ByteArray} {h : Mem} {Q : Int → Mem → Prop} (w : wp_strings_Compare a b h Q) : CallF PG fn_strings_Compare [.string a, .string b] (.one (.leaf (.int .i64))) h Q := callF_of PM ok_strings_Compare (eq_strings_Compare a b h Q ▸ w)

/- 113: slices.ContainsFunc[[]dunnage/api.Op,dunnage/api.Op] -/
def tab_slices_ContainsFunc_api_Op_api_Op_ : Tab := ⟨[], [], []⟩
def wp_slices_ContainsFunc_api_Op_api_Op_ (s : Sl) (f : Value) (h : Mem) (Q : Bool → Mem → Prop) : Prop :=
  CallF PG fn_slices_IndexFunc_api_Op_api_Op_ [Value.slice s.a s.len s.cap, f] (Kd.one (Cmp.leaf (Leaf.int IntKind.i64))) h fun (n1 : Int) (h2 : Mem) => Q (decide (n1 ≥ 0)) h2
theorem eq_slices_ContainsFunc_api_Op_api_Op_ (s : Sl) (f : Value) (h : Mem) (Q : Bool → Mem → Prop) : wp_slices_ContainsFunc_api_Op_api_Op_ s f h Q = evFn PG fn_slices_ContainsFunc_api_Op_api_Op_ tab_slices_ContainsFunc_api_Op_api_Op_ [.slice s.a s.len s.cap, f] (.one (.leaf .bool)) h Q := by kernel_rfl
theorem ok_slices_ContainsFunc_api_Op_api_Op_ : okF PG fn_slices_ContainsFunc_api_Op_api_Op_ tab_slices_ContainsFunc_api_Op_api_Op_ = true := by kernel_rfl
theorem call_slices_ContainsFunc_api_Op_api_Op_ {s : Sl} {f : Value} {h : Mem} {Q : Bool → Mem → Prop} (w : wp_slices_ContainsFunc_api_Op_api_Op_ s f h Q) : CallF PG fn_slices_ContainsFunc_api_Op_api_Op_ [.slice s.a s.len s.cap, f] (.one (.leaf .bool)) h Q := callF_of PM ok_slices_ContainsFunc_api_Op_api_Op_ (eq_slices_ContainsFunc_api_Op_api_Op_ s f h Q ▸ w)

/- 114: dunnage/batch.Check$1 -/
def tab_batch_Check_1 : Tab := ⟨[], [], []⟩
def wp_batch_Check_1 (o_0 : ByteArray) (o_1 : Sl) (o_2 : Bool) (h : Mem) (Q : Bool → Mem → Prop) : Prop :=
  New (Obj.cells #[Value.string o_0, Value.slice o_1.a o_1.len o_1.cap, Value.bool o_2] ty_api_Op) h fun (k1 : Nat) (h2 : Mem) =>
    Ld PG ty_string (Addr.mk k1 0 none) (Kd.one (Cmp.leaf Leaf.str)) h2 fun (t3 : ByteArray) =>
      CallF PG fn_keys_May [Value.string t3] (Kd.one (Cmp.leaf Leaf.bool)) h2 fun (b4 : Bool) (h5 : Mem) =>
        Br (!b4) (Q true h5)
          (Ld PG ty_bool ((Addr.mk k1 0 none).add 2) (Kd.one (Cmp.leaf Leaf.bool)) h5 fun (b6 : Bool) =>
            Br b6 (Ld PG ty_sl_uint8 ((Addr.mk k1 0 none).add 1) (Kd.one (Cmp.leaf Leaf.sl)) h5 fun (s7 : Sl) => Q (decide ((↑s7.len : Int) > 0)) h5) (Q false h5))
theorem eq_batch_Check_1 (o_0 : ByteArray) (o_1 : Sl) (o_2 : Bool) (h : Mem) (Q : Bool → Mem → Prop) : wp_batch_Check_1 o_0 o_1 o_2 h Q = evFn PG fn_batch_Check_1 tab_batch_Check_1 [.agg #[.string o_0, .slice o_1.a o_1.len o_1.cap, .bool o_2]] (.one (.leaf .bool)) h Q := by kernel_rfl
theorem ok_batch_Check_1 : okF PG fn_batch_Check_1 tab_batch_Check_1 = true := by kernel_rfl
theorem call_batch_Check_1 {o_0 : ByteArray} {o_1 : Sl} {o_2 : Bool} {h : Mem} {Q : Bool → Mem → Prop} (w : wp_batch_Check_1 o_0 o_1 o_2 h Q) : CallF PG fn_batch_Check_1 [.agg #[.string o_0, .slice o_1.a o_1.len o_1.cap, .bool o_2]] (.one (.leaf .bool)) h Q := callF_of PM ok_batch_Check_1 (eq_batch_Check_1 o_0 o_1 o_2 h Q ▸ w)

/- 115: dunnage/batch.Check$2 -/
def tab_batch_Check_2 : Tab := ⟨[], [], []⟩
def wp_batch_Check_2 (o_0 : ByteArray) (o_1 : Sl) (o_2 : Bool) (h : Mem) (Q : Bool → Mem → Prop) : Prop :=
  New (Obj.cells #[Value.string o_0, Value.slice o_1.a o_1.len o_1.cap, Value.bool o_2] ty_api_Op) h fun (k1 : Nat) (h2 : Mem) =>
    Ld PG ty_sl_uint8 ((Addr.mk k1 0 none).add 1) (Kd.one (Cmp.leaf Leaf.sl)) h2 fun (s3 : Sl) => Q (decide ((↑s3.len : Int) > 4096)) h2
theorem eq_batch_Check_2 (o_0 : ByteArray) (o_1 : Sl) (o_2 : Bool) (h : Mem) (Q : Bool → Mem → Prop) : wp_batch_Check_2 o_0 o_1 o_2 h Q = evFn PG fn_batch_Check_2 tab_batch_Check_2 [.agg #[.string o_0, .slice o_1.a o_1.len o_1.cap, .bool o_2]] (.one (.leaf .bool)) h Q := by kernel_rfl
theorem ok_batch_Check_2 : okF PG fn_batch_Check_2 tab_batch_Check_2 = true := by kernel_rfl
theorem call_batch_Check_2 {o_0 : ByteArray} {o_1 : Sl} {o_2 : Bool} {h : Mem} {Q : Bool → Mem → Prop} (w : wp_batch_Check_2 o_0 o_1 o_2 h Q) : CallF PG fn_batch_Check_2 [.agg #[.string o_0, .slice o_1.a o_1.len o_1.cap, .bool o_2]] (.one (.leaf .bool)) h Q := callF_of PM ok_batch_Check_2 (eq_batch_Check_2 o_0 o_1 o_2 h Q ▸ w)

/- 116: (*dunnage/batch.pen).batch; loop 3: [] -/
def tab_batch_pen_batch : Tab := ⟨[(3, ⟨[(18, .leaf (.int .i64))], [5, 19, 20, 21, 22, 23, 24, 25, 26, 27, 28, 29, 30, 31, 32, 33, 34, 35, 36, 37, 38, 39, 40, 41, 42, 43, 44, 45, 46, 47, 48, 49, 50, 51, 52, 53, 54, 55, 56, 57, 58, 59, 60, 61, 62, 63, 64, 65, 66, 67, 68]⟩)], [], []⟩
def wp_batch_pen_batch (p : Option Addr) (r_0 : Int) (r_1 : Int) (r_2 : Sl) (r_3 : Int) (r_4 : Int) (r_5 : Int) (r_6 : Int) (h : Mem) (Q : Mem → Prop) : Prop :=
  New
    (Obj.cells
      #[Value.int IntKind.i64 r_0, Value.int IntKind.u64 r_1, Value.slice r_2.a r_2.len r_2.cap, Value.int IntKind.u64 r_3, Value.int IntKind.i64 r_4, Value.int IntKind.i64 r_5,
        Value.int IntKind.i64 r_6]
      38)
    h fun (k1 : Nat) (h2 : Mem) =>
    Ld PG ty_uint64 ((Addr.mk k1 0 none).add 1) (Kd.one (Cmp.leaf (Leaf.int IntKind.u64))) h2 fun (n3 : Int) =>
      Ld PG ty_sl_api_Change ((Addr.mk k1 0 none).add 2) (Kd.one (Cmp.leaf Leaf.sl)) h2 fun (s4 : Sl) =>
        New (Obj.cells #[Value.int IntKind.u64 n3, Value.int IntKind.u64 (IntKind.u64.wrap (↑s4.len : Int))] ty_uint64) h2 fun (k5 : Nat) (h6 : Mem) =>
          CallF PG fn_batch_pen_nums [Value.pointer p, Value.slice (some (Addr.mk k5 0 none)) 2 2] (Kd.tup []) h6 fun (h7 : Mem) =>
            Ld PG ty_sl_api_Change ((Addr.mk k1 0 none).add 2) (Kd.one (Cmp.leaf Leaf.sl)) h7 fun (s8 : Sl) =>
              ∃ (I9 : Int → Mem → Prop),
                ∃ (I10 : Int → Mem → Nat),
                  I9 0 h7 ∧
                    ∀ (j11 : Fr) (n12 : Int) (h13 : Mem),
                      I9 n12 h13 →
                        Br (decide (n12 < (↑s8.len : Int)))
                          (Idx s8.a s8.len n12 fun (p14 : Addr) =>
                            Ld PG ty_api_Change (p14.add (n12.toNat * 5)) (Kd.one (Cmp.agg [Leaf.str, Leaf.int IntKind.u64, Leaf.int IntKind.i64, Leaf.int IntKind.i64, Leaf.bool])) h13
                              fun (t15 : ByteArray) (n16 n17 n18 : Int) (b19 : Bool) =>
                              New (Obj.cells #[Value.string (ByteArray.mk #[]), Value.int IntKind.u64 0, Value.int IntKind.i64 0, Value.int IntKind.i64 0, Value.bool false] ty_api_Change) h13
                                fun (k20 : Nat) (h21 : Mem) =>
                                St PG ty_api_Change (Addr.mk k20 0 none)
                                  (Value.agg #[Value.string t15, Value.int IntKind.u64 n16, Value.int IntKind.i64 n17, Value.int IntKind.i64 n18, Value.bool b19]) h21
                                  fun (h22 : Mem) =>
                                  Deref p fun (p23 : Addr) =>
                                    Ld PG ty_sl_uint8 p23 (Kd.one (Cmp.leaf Leaf.sl)) h22 fun (s24 : Sl) =>
                                      Ld PG ty_string (Addr.mk k20 0 none) (Kd.one (Cmp.leaf Leaf.str)) h22 fun (t25 : ByteArray) =>
                                        PrimT PG (convert ty_string ty_sl_uint8 (Value.string t25)) (Kd.one (Cmp.leaf Leaf.sl)) h22 fun (s26 : Sl) (h27 : Mem) =>
                                          (Ld PG ty_sl_uint8 p23 (Kd.one (Cmp.leaf Leaf.sl)) h27 fun (s28 : Sl) =>
                                              Value.slice s28.a s28.len s28.cap = Value.slice s24.a s24.len s24.cap) ∧
                                            CallF PG fn_word_Text [Value.slice s26.a s26.len s26.cap] (Kd.one (Cmp.leaf Leaf.sl)) h27 fun (s29 : Sl) (h30 : Mem) =>
                                              (Ld PG ty_sl_uint8 p23 (Kd.one (Cmp.leaf Leaf.sl)) h30 fun (s31 : Sl) =>
                                                  Value.slice s31.a s31.len s31.cap = Value.slice s24.a s24.len s24.cap) ∧
                                                PrimT PG (Builtin.append_ #[ty_sl_uint8, ty_sl_uint8] ty_sl_uint8 #[Value.slice s24.a s24.len s24.cap, Value.slice s29.a s29.len s29.cap])
                                                  (Kd.one (Cmp.leaf Leaf.sl)) h30 fun (s32 : Sl) (h33 : Mem) =>
                                                  Deref p fun (p34 : Addr) =>
                                                    St PG ty_sl_uint8 p34 (Value.slice s32.a s32.len s32.cap) h33 fun (h35 : Mem) =>
                                                      Ld PG ty_bool ((Addr.mk k20 0 none).add 4) (Kd.one (Cmp.leaf Leaf.bool)) h35 fun (b36 : Bool) =>
                                                        Br b36
                                                          (Deref p fun (p37 : Addr) =>
                                                            Ld PG ty_sl_uint8 p37 (Kd.one (Cmp.leaf Leaf.sl)) h35 fun (s38 : Sl) =>
                                                              New (Obj.cells #[Value.int IntKind.u8 1] ty_uint8) h35 fun (k39 : Nat) (h40 : Mem) =>
                                                                PrimT PG
                                                                  (Builtin.append_ #[ty_sl_uint8, ty_sl_uint8] ty_sl_uint8 #[Value.slice s38.a s38.len s38.cap, Value.slice (some (Addr.mk k39 0 none)) 1 1])
                                                                  (Kd.one (Cmp.leaf Leaf.sl)) h40 fun (s41 : Sl) (h42 : Mem) =>
                                                                  Deref p fun (p43 : Addr) =>
                                                                    St PG ty_sl_uint8 p43 (Value.slice s41.a s41.len s41.cap) h42 fun (h44 : Mem) =>
                                                                      I9 (IntKind.i64.wrap (n12 + 1)) h44 ∧ I10 (IntKind.i64.wrap (n12 + 1)) h44 < I10 n12 h13)
                                                          (Deref p fun (p45 : Addr) =>
                                                            Ld PG ty_sl_uint8 p45 (Kd.one (Cmp.leaf Leaf.sl)) h35 fun (s46 : Sl) =>
                                                              New (Obj.cells #[Value.int IntKind.u8 0] ty_uint8) h35 fun (k47 : Nat) (h48 : Mem) =>
                                                                PrimT PG
                                                                  (Builtin.append_ #[ty_sl_uint8, ty_sl_uint8] ty_sl_uint8 #[Value.slice s46.a s46.len s46.cap, Value.slice (some (Addr.mk k47 0 none)) 1 1])
                                                                  (Kd.one (Cmp.leaf Leaf.sl)) h48 fun (s49 : Sl) (h50 : Mem) =>
                                                                  Deref p fun (p51 : Addr) =>
                                                                    St PG ty_sl_uint8 p51 (Value.slice s49.a s49.len s49.cap) h50 fun (h52 : Mem) =>
                                                                      Ld PG ty_uint64 ((Addr.mk k20 0 none).add 1) (Kd.one (Cmp.leaf (Leaf.int IntKind.u64))) h52 fun (n53 : Int) =>
                                                                        Ld PG ty_int (((Addr.mk k20 0 none).add 1).add 1) (Kd.one (Cmp.leaf (Leaf.int IntKind.i64))) h52
                                                                          fun (n54 : Int) =>
                                                                          Ld PG ty_int (((Addr.mk k20 0 none).add 1).add 2) (Kd.one (Cmp.leaf (Leaf.int IntKind.i64))) h52
                                                                            fun (n55 : Int) =>
                                                                            New
                                                                              (Obj.cells
                                                                                #[Value.int IntKind.u64 n53, Value.int IntKind.u64 (IntKind.u64.wrap n54),
                                                                                  Value.int IntKind.u64 (IntKind.u64.wrap n55)]
                                                                                33)
                                                                              h52 fun (k56 : Nat) (h57 : Mem) =>
                                                                              CallF PG fn_batch_pen_nums [Value.pointer p, Value.slice (some (Addr.mk k56 0 none)) 3 3] (Kd.tup []) h57
                                                                                fun (h58 : Mem) =>
                                                                                I9 (IntKind.i64.wrap (n12 + 1)) h58 ∧ I10 (IntKind.i64.wrap (n12 + 1)) h58 < I10 n12 h13))
                          (Q h13)
theorem eq_batch_pen_batch (p : Option Addr) (r_0 : Int) (r_1 : Int) (r_2 : Sl) (r_3 : Int) (r_4 : Int) (r_5 : Int) (r_6 : Int) (h : Mem) (Q : Mem → Prop) : wp_batch_pen_batch p r_0 r_1 r_2 r_3 r_4 r_5 r_6 h Q = evFn PG fn_batch_pen_batch tab_batch_pen_batch [.pointer p, .agg #[.int .i64 r_0, .int .u64 r_1, .slice r_2.a r_2.len r_2.cap, .int .u64 r_3, .int .i64 r_4, .int .i64 r_5, .int .i64 r_6]] (.tup []) h Q := by kernel_rfl
theorem ok_batch_pen_batch : okF PG fn_batch_pen_batch tab_batch_pen_batch = true := by kernel_rfl
theorem call_batch_pen_batch {p : Option Addr} {r_0 : Int} {r_1 : Int} {r_2 : Sl} {r_3 : Int} {r_4 : Int} {r_5 : Int} {r_6 : Int} {h : Mem} {Q : Mem → Prop} (w : wp_batch_pen_batch p r_0 r_1 r_2 r_3 r_4 r_5 r_6 h Q) : CallF PG fn_batch_pen_batch [.pointer p, .agg #[.int .i64 r_0, .int .u64 r_1, .slice r_2.a r_2.len r_2.cap, .int .u64 r_3, .int .i64 r_4, .int .i64 r_5, .int .i64 r_6]] (.tup []) h Q := callF_of PM ok_batch_pen_batch (eq_batch_pen_batch p r_0 r_1 r_2 r_3 r_4 r_5 r_6 h Q ▸ w)

/- 117: (*dunnage/batch.pen).move -/
def tab_batch_pen_move : Tab := ⟨[], [], []⟩
def wp_batch_pen_move (p : Option Addr) (r_0 : Int) (r_1 : Int) (r_2 : Sl) (r_3 : Int) (r_4 : Int) (r_5 : Int) (r_6 : Int) (h : Mem) (Q : Mem → Prop) : Prop :=
  New
    (Obj.cells
      #[Value.int IntKind.i64 r_0, Value.int IntKind.u64 r_1, Value.slice r_2.a r_2.len r_2.cap, Value.int IntKind.u64 r_3, Value.int IntKind.i64 r_4, Value.int IntKind.i64 r_5,
        Value.int IntKind.i64 r_6]
      38)
    h fun (k1 : Nat) (h2 : Mem) =>
    Ld PG ty_uint64 ((Addr.mk k1 0 none).add 3) (Kd.one (Cmp.leaf (Leaf.int IntKind.u64))) h2 fun (n3 : Int) =>
      Ld PG ty_int (((Addr.mk k1 0 none).add 3).add 1) (Kd.one (Cmp.leaf (Leaf.int IntKind.i64))) h2 fun (n4 : Int) =>
        Ld PG ty_int (((Addr.mk k1 0 none).add 3).add 2) (Kd.one (Cmp.leaf (Leaf.int IntKind.i64))) h2 fun (n5 : Int) =>
          Ld PG ty_int (((Addr.mk k1 0 none).add 3).add 3) (Kd.one (Cmp.leaf (Leaf.int IntKind.i64))) h2 fun (n6 : Int) =>
            New
              (Obj.cells
                #[Value.int IntKind.u64 n3, Value.int IntKind.u64 (IntKind.u64.wrap n4), Value.int IntKind.u64 (IntKind.u64.wrap n5), Value.int IntKind.u64 (IntKind.u64.wrap n6)] 33)
              h2 fun (k7 : Nat) (h8 : Mem) => CallF PG fn_batch_pen_nums [Value.pointer p, Value.slice (some (Addr.mk k7 0 none)) 4 4] (Kd.tup []) h8 fun (h9 : Mem) => Q h9
theorem eq_batch_pen_move (p : Option Addr) (r_0 : Int) (r_1 : Int) (r_2 : Sl) (r_3 : Int) (r_4 : Int) (r_5 : Int) (r_6 : Int) (h : Mem) (Q : Mem → Prop) : wp_batch_pen_move p r_0 r_1 r_2 r_3 r_4 r_5 r_6 h Q = evFn PG fn_batch_pen_move tab_batch_pen_move [.pointer p, .agg #[.int .i64 r_0, .int .u64 r_1, .slice r_2.a r_2.len r_2.cap, .int .u64 r_3, .int .i64 r_4, .int .i64 r_5, .int .i64 r_6]] (.tup []) h Q := by kernel_rfl
theorem ok_batch_pen_move : okF PG fn_batch_pen_move tab_batch_pen_move = true := by kernel_rfl
theorem call_batch_pen_move {p : Option Addr} {r_0 : Int} {r_1 : Int} {r_2 : Sl} {r_3 : Int} {r_4 : Int} {r_5 : Int} {r_6 : Int} {h : Mem} {Q : Mem → Prop} (w : wp_batch_pen_move p r_0 r_1 r_2 r_3 r_4 r_5 r_6 h Q) : CallF PG fn_batch_pen_move [.pointer p, .agg #[.int .i64 r_0, .int .u64 r_1, .slice r_2.a r_2.len r_2.cap, .int .u64 r_3, .int .i64 r_4, .int .i64 r_5, .int .i64 r_6]] (.tup []) h Q := callF_of PM ok_batch_pen_move (eq_batch_pen_move p r_0 r_1 r_2 r_3 r_4 r_5 r_6 h Q ▸ w)

/- 118: dunnage/dunnageref01.Var; loop 2: [v, out] -/
def tab_dunnageref01_Var : Tab := ⟨[(2, ⟨[(0, .leaf (.int .u64)), (3, .leaf .sl)], [4, 5, 6, 7, 8, 9, 10, 11, 12, 13]⟩)], [], []⟩
def wp_dunnageref01_Var (v : Int) (h : Mem) (Q : Sl → Mem → Prop) : Prop :=
  ∃ (I1 : Int → Sl → Mem → Prop),
    ∃ (I2 : Int → Sl → Mem → Nat),
      I1 v (Sl.mk none 0 0) h ∧
        ∀ (j3 : Fr) (n4 : Int) (s5 : Sl) (h6 : Mem),
          I1 n4 s5 h6 →
            Br (decide (n4 ≥ 128))
              (New (Obj.cells #[Value.int IntKind.u8 (bitsOf BinOp.or IntKind.u8 (IntKind.u8.wrap n4) 128)] ty_uint8) h6 fun (k7 : Nat) (h8 : Mem) =>
                PrimT PG (Builtin.append_ #[ty_sl_uint8, ty_sl_uint8] ty_sl_uint8 #[Value.slice s5.a s5.len s5.cap, Value.slice (some (Addr.mk k7 0 none)) 1 1]) (Kd.one (Cmp.leaf Leaf.sl)) h8
                  fun (s9 : Sl) (h10 : Mem) =>
                  I1 (n4.fdiv (Int.ofNat 128)) (Sl.mk s9.a s9.len s9.cap) h10 ∧ I2 (n4.fdiv (Int.ofNat 128)) (Sl.mk s9.a s9.len s9.cap) h10 < I2 n4 s5 h6)
              (New (Obj.cells #[Value.int IntKind.u8 (IntKind.u8.wrap n4)] ty_uint8) h6 fun (k11 : Nat) (h12 : Mem) =>
                PrimT PG (Builtin.append_ #[ty_sl_uint8, ty_sl_uint8] ty_sl_uint8 #[Value.slice s5.a s5.len s5.cap, Value.slice (some (Addr.mk k11 0 none)) 1 1]) (Kd.one (Cmp.leaf Leaf.sl)) h12
                  fun (s13 : Sl) (h14 : Mem) => Q (Sl.mk s13.a s13.len s13.cap) h14)
theorem eq_dunnageref01_Var (v : Int) (h : Mem) (Q : Sl → Mem → Prop) : wp_dunnageref01_Var v h Q = evFn PG fn_dunnageref01_Var tab_dunnageref01_Var [.int .u64 v] (.one (.leaf .sl)) h Q := by kernel_rfl
theorem ok_dunnageref01_Var : okF PG fn_dunnageref01_Var tab_dunnageref01_Var = true := by kernel_rfl
theorem call_dunnageref01_Var {v : Int} {h : Mem} {Q : Sl → Mem → Prop} (w : wp_dunnageref01_Var v h Q) : CallF PG fn_dunnageref01_Var [.int .u64 v] (.one (.leaf .sl)) h Q := callF_of PM ok_dunnageref01_Var (eq_dunnageref01_Var v h Q ▸ w)

/- 119: dunnage/batch.points -/
def tab_batch_points : Tab := ⟨[], [], []⟩
def wp_batch_points (r_0 : Int) (r_1 : Int) (r_2 : Int) (h : Mem) (Q : Bool → Mem → Prop) : Prop :=
  New (Obj.cells #[Value.int IntKind.u64 r_0, Value.int IntKind.i64 r_1, Value.int IntKind.i64 r_2] ty_api_Ref) h fun (k1 : Nat) (h2 : Mem) =>
    Ld PG ty_uint64 (Addr.mk k1 0 none) (Kd.one (Cmp.leaf (Leaf.int IntKind.u64))) h2 fun (n3 : Int) =>
      Br (decide (n3 ≥ 1))
        (Ld PG ty_int ((Addr.mk k1 0 none).add 1) (Kd.one (Cmp.leaf (Leaf.int IntKind.i64))) h2 fun (n4 : Int) =>
          Br (decide (n4 ≥ 0))
            (Ld PG ty_int ((Addr.mk k1 0 none).add 1) (Kd.one (Cmp.leaf (Leaf.int IntKind.i64))) h2 fun (n5 : Int) =>
              Br (decide (n5 ≤ 65536))
                (Ld PG ty_int ((Addr.mk k1 0 none).add 2) (Kd.one (Cmp.leaf (Leaf.int IntKind.i64))) h2 fun (n6 : Int) =>
                  Br (decide (n6 ≥ 0)) (Ld PG ty_int ((Addr.mk k1 0 none).add 2) (Kd.one (Cmp.leaf (Leaf.int IntKind.i64))) h2 fun (n7 : Int) => Q (decide (n7 ≤ 4096)) h2)
                    (Q false h2))
                (Q false h2))
            (Q false h2))
        (Q false h2)
theorem eq_batch_points (r_0 : Int) (r_1 : Int) (r_2 : Int) (h : Mem) (Q : Bool → Mem → Prop) : wp_batch_points r_0 r_1 r_2 h Q = evFn PG fn_batch_points tab_batch_points [.agg #[.int .u64 r_0, .int .i64 r_1, .int .i64 r_2]] (.one (.leaf .bool)) h Q := by kernel_rfl
theorem ok_batch_points : okF PG fn_batch_points tab_batch_points = true := by kernel_rfl
theorem call_batch_points {r_0 : Int} {r_1 : Int} {r_2 : Int} {h : Mem} {Q : Bool → Mem → Prop} (w : wp_batch_points r_0 r_1 r_2 h Q) : CallF PG fn_batch_points [.agg #[.int .u64 r_0, .int .i64 r_1, .int .i64 r_2]] (.one (.leaf .bool)) h Q := callF_of PM ok_batch_points (eq_batch_points r_0 r_1 r_2 h Q ▸ w)

/- 120: dunnage/dunnagehelp.Same[dunnage/api.Change]; loop 4: [i] -/
def tab_dunnagehelp_Same_api_Change_ : Tab := ⟨[(4, ⟨[(7, .leaf (.int .i64))], [6, 13, 14, 15, 16, 17, 18, 19, 20, 21, 22, 23, 24, 25, 26, 27, 28, 29]⟩)], [], []⟩
def wp_dunnagehelp_Same_api_Change_ (a : Sl) (b : Sl) (one : Value) (h : Mem) (Q : Bool → Mem → Prop) : Prop :=
  Br ((↑a.len : Int) != (↑b.len : Int)) (Q false h)
    (∃ (I1 : Int → Mem → Prop),
      ∃ (I2 : Int → Mem → Nat),
        I1 0 h ∧
          ∀ (j3 : Fr) (n4 : Int) (h5 : Mem),
            I1 n4 h5 →
              Br (decide (n4 < (↑a.len : Int)))
                (Idx a.a a.len n4 fun (p6 : Addr) =>
                  Ld PG ty_api_Change (p6.add (n4.toNat * 5)) (Kd.one (Cmp.agg [Leaf.str, Leaf.int IntKind.u64, Leaf.int IntKind.i64, Leaf.int IntKind.i64, Leaf.bool])) h5
                    fun (t7 : ByteArray) (n8 n9 n10 : Int) (b11 : Bool) =>
                    Idx b.a b.len n4 fun (p12 : Addr) =>
                      Ld PG ty_api_Change (p12.add (n4.toNat * 5)) (Kd.one (Cmp.agg [Leaf.str, Leaf.int IntKind.u64, Leaf.int IntKind.i64, Leaf.int IntKind.i64, Leaf.bool])) h5
                        fun (t13 : ByteArray) (n14 n15 n16 : Int) (b17 : Bool) =>
                        CallV PG one
                          [Value.agg #[Value.string t7, Value.int IntKind.u64 n8, Value.int IntKind.i64 n9, Value.int IntKind.i64 n10, Value.bool b11],
                            Value.agg #[Value.string t13, Value.int IntKind.u64 n14, Value.int IntKind.i64 n15, Value.int IntKind.i64 n16, Value.bool b17]]
                          (Kd.one (Cmp.leaf Leaf.bool)) h5 fun (b18 : Bool) (h19 : Mem) =>
                          Br (!b18) (Q false h19) (I1 (IntKind.i64.wrap (n4 + 1)) h19 ∧ I2 (IntKind.i64.wrap (n4 + 1)) h19 < I2 n4 h5))
                (Q true h5))
theorem eq_dunnagehelp_Same_api_Change_ (a : Sl) (b : Sl) (one : Value) (h : Mem) (Q : Bool → Mem → Prop) : wp_dunnagehelp_Same_api_Change_ a b one h Q = evFn PG fn_dunnagehelp_Same_api_Change_ tab_dunnagehelp_Same_api_Change_ [.slice a.a a.len a.cap, .slice b.a b.len b.cap, one] (.one (.leaf .bool)) h Q := by kernel_rfl
theorem ok_dunnagehelp_Same_api_Change_ : okF PG fn_dunnagehelp_Same_api_Change_ tab_dunnagehelp_Same_api_Change_ = true := by kernel_rfl
theorem call_dunnagehelp_Same_api_Change_ {a : Sl} {b : Sl} {one : Value} {h : Mem} {Q : Bool → Mem → Prop} (w : wp_dunnagehelp_Same_api_Change_ a b one h Q) : CallF PG fn_dunnagehelp_Same_api_Change_ [.slice a.a a.len a.cap, .slice b.a b.len b.cap, one] (.one (.leaf .bool)) h Q := callF_of PM ok_dunnagehelp_Same_api_Change_ (eq_dunnagehelp_Same_api_Change_ a b one h Q ▸ w)

/- 121: dunnage/dunnagehelp.Plain[dunnage/api.Change]$1 -/
def tab_dunnagehelp_Plain_api_Change_1 : Tab := ⟨[], [], []⟩
def wp_dunnagehelp_Plain_api_Change_1 (x_0 : ByteArray) (x_1 : Int) (x_2 : Int) (x_3 : Int) (x_4 : Bool) (y_0 : ByteArray) (y_1 : Int) (y_2 : Int) (y_3 : Int) (y_4 : Bool) (h : Mem) (Q : Bool → Mem → Prop) : Prop :=
  New (Obj.cells #[Value.string x_0, Value.int IntKind.u64 x_1, Value.int IntKind.i64 x_2, Value.int IntKind.i64 x_3, Value.bool x_4] ty_api_Change) h fun (k1 : Nat) (h2 : Mem) =>
    New (Obj.cells #[Value.string y_0, Value.int IntKind.u64 y_1, Value.int IntKind.i64 y_2, Value.int IntKind.i64 y_3, Value.bool y_4] ty_api_Change) h2 fun (k3 : Nat) (h4 : Mem) =>
      Ld PG ty_api_Change (Addr.mk k1 0 none) (Kd.one (Cmp.agg [Leaf.str, Leaf.int IntKind.u64, Leaf.int IntKind.i64, Leaf.int IntKind.i64, Leaf.bool])) h4
        fun (t5 : ByteArray) (n6 n7 n8 : Int) (b9 : Bool) =>
        Ld PG ty_api_Change (Addr.mk k3 0 none) (Kd.one (Cmp.agg [Leaf.str, Leaf.int IntKind.u64, Leaf.int IntKind.i64, Leaf.int IntKind.i64, Leaf.bool])) h4
          fun (t10 : ByteArray) (n11 n12 n13 : Int) (b14 : Bool) =>
          EqP PG BinOp.eql ty_api_Change (Value.agg #[Value.string t5, Value.int IntKind.u64 n6, Value.int IntKind.i64 n7, Value.int IntKind.i64 n8, Value.bool b9])
            (Value.agg #[Value.string t10, Value.int IntKind.u64 n11, Value.int IntKind.i64 n12, Value.int IntKind.i64 n13, Value.bool b14]) fun (b15 : Bool) => Q b15 h4
theorem eq_dunnagehelp_Plain_api_Change_1 (x_0 : ByteArray) (x_1 : Int) (x_2 : Int) (x_3 : Int) (x_4 : Bool) (y_0 : ByteArray) (y_1 : Int) (y_2 : Int) (y_3 : Int) (y_4 : Bool) (h : Mem) (Q : Bool → Mem → Prop) : wp_dunnagehelp_Plain_api_Change_1 x_0 x_1 x_2 x_3 x_4 y_0 y_1 y_2 y_3 y_4 h Q = evFn PG fn_dunnagehelp_Plain_api_Change_1 tab_dunnagehelp_Plain_api_Change_1 [.agg #[.string x_0, .int .u64 x_1, .int .i64 x_2, .int .i64 x_3, .bool x_4], .agg #[.string y_0, .int .u64 y_1, .int .i64 y_2, .int .i64 y_3, .bool y_4]] (.one (.leaf .bool)) h Q := by kernel_rfl
theorem ok_dunnagehelp_Plain_api_Change_1 : okF PG fn_dunnagehelp_Plain_api_Change_1 tab_dunnagehelp_Plain_api_Change_1 = true := by kernel_rfl
theorem call_dunnagehelp_Plain_api_Change_1 {x_0 : ByteArray} {x_1 : Int} {x_2 : Int} {x_3 : Int} {x_4 : Bool} {y_0 : ByteArray} {y_1 : Int} {y_2 : Int} {y_3 : Int} {y_4 : Bool} {h : Mem} {Q : Bool → Mem → Prop} (w : wp_dunnagehelp_Plain_api_Change_1 x_0 x_1 x_2 x_3 x_4 y_0 y_1 y_2 y_3 y_4 h Q) : CallF PG fn_dunnagehelp_Plain_api_Change_1 [.agg #[.string x_0, .int .u64 x_1, .int .i64 x_2, .int .i64 x_3, .bool x_4], .agg #[.string y_0, .int .u64 y_1, .int .i64 y_2, .int .i64 y_3, .bool y_4]] (.one (.leaf .bool)) h Q := callF_of PM ok_dunnagehelp_Plain_api_Change_1 (eq_dunnagehelp_Plain_api_Change_1 x_0 x_1 x_2 x_3 x_4 y_0 y_1 y_2 y_3 y_4 h Q ▸ w)

/- 122: slices.BinarySearchFunc[[]dunnage/api.Pair,dunnage/api.Pair,string]; loop 3: [i, j] -/
def tab_slices_BinarySearchFunc_api_Pair_api_Pair_string_ : Tab := ⟨[(3, ⟨[(9, .leaf (.int .i64)), (10, .leaf (.int .i64))], [11, 15, 16, 17, 18, 19, 20, 21, 22, 23, 24, 25, 26, 27, 28, 29, 30, 31, 32, 33, 34]⟩)], [], []⟩
def wp_slices_BinarySearchFunc_api_Pair_api_Pair_string_ (x : Sl) (target : ByteArray) (cmp : Value) (h : Mem) (Q : Int → Bool → Mem → Prop) : Prop :=
  ∃ (I1 : Int → Int → Mem → Prop),
    ∃ (I2 : Int → Int → Mem → Nat),
      I1 0 (↑x.len : Int) h ∧
        ∀ (j3 : Fr) (n4 n5 : Int) (h6 : Mem),
          I1 n4 n5 h6 →
            Br (decide (n4 < n5))
              (Idx x.a x.len (IntKind.i64.wrap ((IntKind.u64.wrap (IntKind.i64.wrap (n4 + n5))).fdiv (Int.ofNat 2))) fun (p7 : Addr) =>
                Ld PG ty_api_Pair (p7.add ((IntKind.i64.wrap ((IntKind.u64.wrap (IntKind.i64.wrap (n4 + n5))).fdiv (Int.ofNat 2))).toNat * 2)) (Kd.one (Cmp.agg [Leaf.str, Leaf.sl])) h6
                  fun (t8 : ByteArray) (s9 : Sl) =>
                  CallV PG cmp [Value.agg #[Value.string t8, Value.slice s9.a s9.len s9.cap], Value.string target] (Kd.one (Cmp.leaf (Leaf.int IntKind.i64))) h6
                    fun (n10 : Int) (h11 : Mem) =>
                    Br (decide (n10 < 0))
                      (I1 (IntKind.i64.wrap (IntKind.i64.wrap ((IntKind.u64.wrap (IntKind.i64.wrap (n4 + n5))).fdiv (Int.ofNat 2)) + 1)) n5 h11 ∧
                        I2 (IntKind.i64.wrap (IntKind.i64.wrap ((IntKind.u64.wrap (IntKind.i64.wrap (n4 + n5))).fdiv (Int.ofNat 2)) + 1)) n5 h11 < I2 n4 n5 h6)
                      (I1 n4 (IntKind.i64.wrap ((IntKind.u64.wrap (IntKind.i64.wrap (n4 + n5))).fdiv (Int.ofNat 2))) h11 ∧
                        I2 n4 (IntKind.i64.wrap ((IntKind.u64.wrap (IntKind.i64.wrap (n4 + n5))).fdiv (Int.ofNat 2))) h11 < I2 n4 n5 h6))
              (Br (decide (n4 < (↑x.len : Int)))
                (Idx x.a x.len n4 fun (p12 : Addr) =>
                  Ld PG ty_api_Pair (p12.add (n4.toNat * 2)) (Kd.one (Cmp.agg [Leaf.str, Leaf.sl])) h6 fun (t13 : ByteArray) (s14 : Sl) =>
                    CallV PG cmp [Value.agg #[Value.string t13, Value.slice s14.a s14.len s14.cap], Value.string target] (Kd.one (Cmp.leaf (Leaf.int IntKind.i64))) h6
                      fun (n15 : Int) (h16 : Mem) => Q n4 (n15 == 0) h16)
                (Q n4 false h6))
theorem eq_slices_BinarySearchFunc_api_Pair_api_Pair_string_ (x : Sl) (target : ByteArray) (cmp : Value) (h : Mem) (Q : Int → Bool → Mem → Prop) : wp_slices_BinarySearchFunc_api_Pair_api_Pair_string_ x target cmp h Q = evFn PG fn_slices_BinarySearchFunc_api_Pair_api_Pair_string_ tab_slices_BinarySearchFunc_api_Pair_api_Pair_string_ [.slice x.a x.len x.cap, .string target, cmp] (.tup [(.leaf (.int .i64)), (.leaf .bool)]) h Q := by kernel_rfl
theorem ok_slices_BinarySearchFunc_api_Pair_api_Pair_string_ : okF PG fn_slices_BinarySearchFunc_api_Pair_api_Pair_string_ tab_slices_BinarySearchFunc_api_Pair_api_Pair_string_ = true := by kernel_rfl
theorem call_slices_BinarySearchFunc_api_Pair_api_Pair_string_ {x : Sl} {target : ByteArray} {cmp : Value} {h : Mem} {Q : Int → Bool → Mem → Prop} (w : wp_slices_BinarySearchFunc_api_Pair_api_Pair_string_ x target cmp h Q) : CallF PG fn_slices_BinarySearchFunc_api_Pair_api_Pair_string_ [.slice x.a x.len x.cap, .string target, cmp] (.tup [(.leaf (.int .i64)), (.leaf .bool)]) h Q := callF_of PM ok_slices_BinarySearchFunc_api_Pair_api_Pair_string_ (eq_slices_BinarySearchFunc_api_Pair_api_Pair_string_ x target cmp h Q ▸ w)

/- 123: dunnage/plain.place$1 -/
def tab_plain_place_1 : Tab := ⟨[], [], []⟩
def wp_plain_place_1 (p_0 : ByteArray) (p_1 : Sl) (key : ByteArray) (h : Mem) (Q : Int → Mem → Prop) : Prop :=
  New (Obj.cells #[Value.string p_0, Value.slice p_1.a p_1.len p_1.cap] ty_api_Pair) h fun (k1 : Nat) (h2 : Mem) =>
    Ld PG ty_string (Addr.mk k1 0 none) (Kd.one (Cmp.leaf Leaf.str)) h2 fun (t3 : ByteArray) =>
      CallF PG fn_strings_Compare [Value.string t3, Value.string key] (Kd.one (Cmp.leaf (Leaf.int IntKind.i64))) h2 fun (n4 : Int) (h5 : Mem) => Q n4 h5
theorem eq_plain_place_1 (p_0 : ByteArray) (p_1 : Sl) (key : ByteArray) (h : Mem) (Q : Int → Mem → Prop) : wp_plain_place_1 p_0 p_1 key h Q = evFn PG fn_plain_place_1 tab_plain_place_1 [.agg #[.string p_0, .slice p_1.a p_1.len p_1.cap], .string key] (.one (.leaf (.int .i64))) h Q := by kernel_rfl
theorem ok_plain_place_1 : okF PG fn_plain_place_1 tab_plain_place_1 = true := by kernel_rfl
theorem call_plain_place_1 {p_0 : ByteArray} {p_1 : Sl} {key : ByteArray} {h : Mem} {Q : Int → Mem → Prop} (w : wp_plain_place_1 p_0 p_1 key h Q) : CallF PG fn_plain_place_1 [.agg #[.string p_0, .slice p_1.a p_1.len p_1.cap], .string key] (.one (.leaf (.int .i64))) h Q := callF_of PM ok_plain_place_1 (eq_plain_place_1 p_0 p_1 key h Q ▸ w)

end Go.Dn.W
