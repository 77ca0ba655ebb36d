/- What each function asks for: typed text, and the theorem that the code does it. -/
import Derived.Test.YtemelcaoepaoiaaDnNames
set_option maxRecDepth 100000
set_option linter.unusedVariables false
namespace Go.Dn.W
open Go Go.Dn Go.Proofs

/- 125: slices.rotateRight[dunnage/api.Pair] -/
def tab_slices_rotateRight_api_Pair_ : Tab := ⟨[], [], []⟩
def wp_slices_rotateRight_api_Pair_ (s : Sl) (r : Int) (h : Mem) (Q : Mem → Prop) : Prop :=
  CallF PG fn_slices_rotateLeft_api_Pair_ [Value.slice s.a s.len s.cap, Value.int IntKind.i64 (IntKind.i64.wrap ((↑s.len : Int) - r))] (Kd.tup []) h fun (h1 : Mem) => Q h1
theorem eq_slices_rotateRight_api_Pair_ (s : Sl) (r : Int) (h : Mem) (Q : Mem → Prop) : wp_slices_rotateRight_api_Pair_ s r h Q = evFn PG fn_slices_rotateRight_api_Pair_ tab_slices_rotateRight_api_Pair_ [.slice s.a s.len s.cap, .int .i64 r] (.tup []) h Q := by kernel_rfl
theorem ok_slices_rotateRight_api_Pair_ : okF PG fn_slices_rotateRight_api_Pair_ tab_slices_rotateRight_api_Pair_ = true := by kernel_rfl
theorem call_slices_rotateRight_api_Pair_ {s : Sl} {r : Int} {h : Mem} {Q : Mem → Prop} (w : wp_slices_rotateRight_api_Pair_ s r h Q) : CallF PG fn_slices_rotateRight_api_Pair_ [.slice s.a s.len s.cap, .int .i64 r] (.tup []) h Q := callF_of PM ok_slices_rotateRight_api_Pair_ (eq_slices_rotateRight_api_Pair_ s r h Q ▸ w)

/- 126: (*dunnage/batch.pen).readBatch; join 4: []; loop 5: [i] -/
def tab_batch_pen_readBatch : Tab := ⟨[(5, ⟨[(5, .leaf (.int .u64))], [6, 18, 19, 20, 21, 22, 23, 24, 25, 26, 27, 28, 29, 30, 31, 32, 33, 34, 35, 36, 37, 38, 39, 40, 41, 42, 43, 44, 45, 46, 47, 48, 49, 50, 51, 52, 53, 54, 55, 56, 57, 58, 59]⟩)], [(4, ⟨[], [14, 15, 16, 17]⟩)], [(5, (chainT [(0, false), (1, false), (2, false), (3, false)] (.join ⟨[(27, .leaf .bool)], [22, 23, 24, 25, 26]⟩ (chainT [(4, false), (5, false), (6, false), (7, false), (8, false), (9, false)] .nil) .nil)))]⟩
def wp_batch_pen_readBatch (p : Option Addr) (r : Option Addr) (h : Mem) (Q : Mem → Prop) : Prop :=
  CallF PG fn_batch_pen_num [Value.pointer p] (Kd.one (Cmp.leaf (Leaf.int IntKind.u64))) h fun (n1 : Int) (h2 : Mem) =>
    Deref r fun (p3 : Addr) =>
      St PG ty_uint64 (p3.add 1) (Value.int IntKind.u64 n1) h2 fun (h4 : Mem) =>
        CallF PG fn_batch_pen_num [Value.pointer p] (Kd.one (Cmp.leaf (Leaf.int IntKind.u64))) h4 fun (n5 : Int) (h6 : Mem) =>
          ∃ (I7 : Mem → Prop),
            (∀ (j8 : Fr) (h9 : Mem),
                I7 h9 →
                  ∃ (I10 : Int → Mem → Prop),
                    ∃ (I11 : Int → Mem → Nat),
                      I10 0 h9 ∧
                        ∀ (j12 : Fr) (n13 : Int) (h14 : Mem),
                          I10 n13 h14 →
                            ∃ (I15 : Bool → Mem → Prop),
                              (∀ (j16 : Fr) (b17 : Bool) (h18 : Mem),
                                  I15 b17 h18 →
                                    Br b17
                                      (CallF PG fn_batch_pen_key [Value.pointer p] (Kd.one (Cmp.leaf Leaf.str)) h18 fun (t19 : ByteArray) (h20 : Mem) =>
                                        New
                                          (Obj.cells #[Value.string (ByteArray.mk #[]), Value.int IntKind.u64 0, Value.int IntKind.i64 0, Value.int IntKind.i64 0, Value.bool false]
                                            43)
                                          h20 fun (k21 : Nat) (h22 : Mem) =>
                                          St PG ty_api_Change (Addr.mk k21 0 none)
                                            (Value.agg #[Value.string t19, Value.int IntKind.u64 0, Value.int IntKind.i64 0, Value.int IntKind.i64 0, Value.bool false]) h22
                                            fun (h23 : Mem) =>
                                            CallF PG fn_batch_pen_one [Value.pointer p] (Kd.one (Cmp.leaf (Leaf.int IntKind.u8))) h23 fun (n24 : Int) (h25 : Mem) =>
                                              Br (n24 == 0)
                                                (CallF PG fn_batch_pen_num [Value.pointer p] (Kd.one (Cmp.leaf (Leaf.int IntKind.u64))) h25 fun (n26 : Int) (h27 : Mem) =>
                                                  CallF PG fn_batch_pen_int [Value.pointer p] (Kd.one (Cmp.leaf (Leaf.int IntKind.i64))) h27 fun (n28 : Int) (h29 : Mem) =>
                                                    CallF PG fn_batch_pen_int [Value.pointer p] (Kd.one (Cmp.leaf (Leaf.int IntKind.i64))) h29 fun (n30 : Int) (h31 : Mem) =>
                                                      St PG ty_api_Ref ((Addr.mk k21 0 none).add 1)
                                                        (Value.agg #[Value.int IntKind.u64 n26, Value.int IntKind.i64 n28, Value.int IntKind.i64 n30]) h31 fun (h32 : Mem) =>
                                                        Deref r fun (p33 : Addr) =>
                                                          Ld PG ty_sl_api_Change (p33.add 2) (Kd.one (Cmp.leaf Leaf.sl)) h32 fun (s34 : Sl) =>
                                                            Ld PG ty_api_Change (Addr.mk k21 0 none)
                                                              (Kd.one (Cmp.agg [Leaf.str, Leaf.int IntKind.u64, Leaf.int IntKind.i64, Leaf.int IntKind.i64, Leaf.bool])) h32
                                                              fun (t35 : ByteArray) (n36 n37 n38 : Int) (b39 : Bool) =>
                                                              New
                                                                (Obj.cells
                                                                  #[Value.string t35, Value.int IntKind.u64 n36, Value.int IntKind.i64 n37, Value.int IntKind.i64 n38, Value.bool b39]
                                                                  43)
                                                                h32 fun (k40 : Nat) (h41 : Mem) =>
                                                                (Ld PG ty_sl_api_Change (p33.add 2) (Kd.one (Cmp.leaf Leaf.sl)) h41 fun (s42 : Sl) =>
                                                                    Value.slice s42.a s42.len s42.cap = Value.slice s34.a s34.len s34.cap) ∧
                                                                  PrimT PG
                                                                    (Builtin.append_ #[ty_sl_api_Change, ty_sl_api_Change] ty_sl_api_Change #[Value.slice s34.a s34.len s34.cap, Value.slice (some (Addr.mk k40 0 none)) 1 1])
                                                                    (Kd.one (Cmp.leaf Leaf.sl)) h41 fun (s43 : Sl) (h44 : Mem) =>
                                                                    Deref r fun (p45 : Addr) =>
                                                                      St PG ty_sl_api_Change (p45.add 2) (Value.slice s43.a s43.len s43.cap) h44 fun (h46 : Mem) =>
                                                                        I10 (IntKind.u64.wrap (n13 + 1)) h46 ∧ I11 (IntKind.u64.wrap (n13 + 1)) h46 < I11 n13 h14)
                                                (Br (n24 == 1)
                                                  (St PG ty_bool ((Addr.mk k21 0 none).add 4) (Value.bool true) h25 fun (h47 : Mem) =>
                                                    Deref r fun (p48 : Addr) =>
                                                      Ld PG ty_sl_api_Change (p48.add 2) (Kd.one (Cmp.leaf Leaf.sl)) h47 fun (s49 : Sl) =>
                                                        Ld PG ty_api_Change (Addr.mk k21 0 none)
                                                          (Kd.one (Cmp.agg [Leaf.str, Leaf.int IntKind.u64, Leaf.int IntKind.i64, Leaf.int IntKind.i64, Leaf.bool])) h47
                                                          fun (t50 : ByteArray) (n51 n52 n53 : Int) (b54 : Bool) =>
                                                          New
                                                            (Obj.cells
                                                              #[Value.string t50, Value.int IntKind.u64 n51, Value.int IntKind.i64 n52, Value.int IntKind.i64 n53, Value.bool b54] 43)
                                                            h47 fun (k55 : Nat) (h56 : Mem) =>
                                                            (Ld PG ty_sl_api_Change (p48.add 2) (Kd.one (Cmp.leaf Leaf.sl)) h56 fun (s57 : Sl) =>
                                                                Value.slice s57.a s57.len s57.cap = Value.slice s49.a s49.len s49.cap) ∧
                                                              PrimT PG
                                                                (Builtin.append_ #[ty_sl_api_Change, ty_sl_api_Change] ty_sl_api_Change #[Value.slice s49.a s49.len s49.cap, Value.slice (some (Addr.mk k55 0 none)) 1 1])
                                                                (Kd.one (Cmp.leaf Leaf.sl)) h56 fun (s58 : Sl) (h59 : Mem) =>
                                                                Deref r fun (p60 : Addr) =>
                                                                  St PG ty_sl_api_Change (p60.add 2) (Value.slice s58.a s58.len s58.cap) h59 fun (h61 : Mem) =>
                                                                    I10 (IntKind.u64.wrap (n13 + 1)) h61 ∧ I11 (IntKind.u64.wrap (n13 + 1)) h61 < I11 n13 h14)
                                                  (CallF PG fn_batch_pen_fail [Value.pointer p, Value.int IntKind.i64 11] (Kd.tup []) h25 fun (h62 : Mem) =>
                                                    Deref r fun (p63 : Addr) =>
                                                      Ld PG ty_sl_api_Change (p63.add 2) (Kd.one (Cmp.leaf Leaf.sl)) h62 fun (s64 : Sl) =>
                                                        Ld PG ty_api_Change (Addr.mk k21 0 none)
                                                          (Kd.one (Cmp.agg [Leaf.str, Leaf.int IntKind.u64, Leaf.int IntKind.i64, Leaf.int IntKind.i64, Leaf.bool])) h62
                                                          fun (t65 : ByteArray) (n66 n67 n68 : Int) (b69 : Bool) =>
                                                          New
                                                            (Obj.cells
                                                              #[Value.string t65, Value.int IntKind.u64 n66, Value.int IntKind.i64 n67, Value.int IntKind.i64 n68, Value.bool b69] 43)
                                                            h62 fun (k70 : Nat) (h71 : Mem) =>
                                                            (Ld PG ty_sl_api_Change (p63.add 2) (Kd.one (Cmp.leaf Leaf.sl)) h71 fun (s72 : Sl) =>
                                                                Value.slice s72.a s72.len s72.cap = Value.slice s64.a s64.len s64.cap) ∧
                                                              PrimT PG
                                                                (Builtin.append_ #[ty_sl_api_Change, ty_sl_api_Change] ty_sl_api_Change #[Value.slice s64.a s64.len s64.cap, Value.slice (some (Addr.mk k70 0 none)) 1 1])
                                                                (Kd.one (Cmp.leaf Leaf.sl)) h71 fun (s73 : Sl) (h74 : Mem) =>
                                                                Deref r fun (p75 : Addr) =>
                                                                  St PG ty_sl_api_Change (p75.add 2) (Value.slice s73.a s73.len s73.cap) h74 fun (h76 : Mem) =>
                                                                    I10 (IntKind.u64.wrap (n13 + 1)) h76 ∧ I11 (IntKind.u64.wrap (n13 + 1)) h76 < I11 n13 h14)))
                                      (Q h18)) ∧
                                Br (decide (n13 < n5))
                                  (Deref p fun (p77 : Addr) => Ld PG ty_api_Errno (p77.add 2) (Kd.one (Cmp.leaf (Leaf.int IntKind.i64))) h14 fun (n78 : Int) => I15 (n78 == 0) h14)
                                  (I15 false h14)) ∧
              Br (decide (n5 > 32)) (CallF PG fn_batch_pen_fail [Value.pointer p, Value.int IntKind.i64 11] (Kd.tup []) h6 fun (h79 : Mem) => I7 h79) (I7 h6)
theorem eq_batch_pen_readBatch (p : Option Addr) (r : Option Addr) (h : Mem) (Q : Mem → Prop) : wp_batch_pen_readBatch p r h Q = evFn PG fn_batch_pen_readBatch tab_batch_pen_readBatch [.pointer p, .pointer r] (.tup []) h Q := by kernel_rfl
theorem ok_batch_pen_readBatch : okF PG fn_batch_pen_readBatch tab_batch_pen_readBatch = true := by kernel_rfl
theorem call_batch_pen_readBatch {p : Option Addr} {r : Option Addr} {h : Mem} {Q : Mem → Prop} (w : wp_batch_pen_readBatch p r h Q) : CallF PG fn_batch_pen_readBatch [.pointer p, .pointer r] (.tup []) h Q := callF_of PM ok_batch_pen_readBatch (eq_batch_pen_readBatch p r h Q ▸ w)

/- 127: (*dunnage/batch.pen).readMove -/
def tab_batch_pen_readMove : Tab := ⟨[], [], []⟩
def wp_batch_pen_readMove (p : Option Addr) (r : Option Addr) (h : Mem) (Q : Mem → Prop) : Prop :=
  CallF PG fn_batch_pen_num [Value.pointer p] (Kd.one (Cmp.leaf (Leaf.int IntKind.u64))) h fun (n1 : Int) (h2 : Mem) =>
    CallF PG fn_batch_pen_int [Value.pointer p] (Kd.one (Cmp.leaf (Leaf.int IntKind.i64))) h2 fun (n3 : Int) (h4 : Mem) =>
      CallF PG fn_batch_pen_int [Value.pointer p] (Kd.one (Cmp.leaf (Leaf.int IntKind.i64))) h4 fun (n5 : Int) (h6 : Mem) =>
        CallF PG fn_batch_pen_int [Value.pointer p] (Kd.one (Cmp.leaf (Leaf.int IntKind.i64))) h6 fun (n7 : Int) (h8 : Mem) =>
          Deref r fun (p9 : Addr) =>
            St PG ty_api_Move (p9.add 3) (Value.agg #[Value.int IntKind.u64 n1, Value.int IntKind.i64 n3, Value.int IntKind.i64 n5, Value.int IntKind.i64 n7]) h8 fun (h10 : Mem) =>
              Q h10
theorem eq_batch_pen_readMove (p : Option Addr) (r : Option Addr) (h : Mem) (Q : Mem → Prop) : wp_batch_pen_readMove p r h Q = evFn PG fn_batch_pen_readMove tab_batch_pen_readMove [.pointer p, .pointer r] (.tup []) h Q := by kernel_rfl
theorem ok_batch_pen_readMove : okF PG fn_batch_pen_readMove tab_batch_pen_readMove = true := by kernel_rfl
theorem call_batch_pen_readMove {p : Option Addr} {r : Option Addr} {h : Mem} {Q : Mem → Prop} (w : wp_batch_pen_readMove p r h Q) : CallF PG fn_batch_pen_readMove [.pointer p, .pointer r] (.tup []) h Q := callF_of PM ok_batch_pen_readMove (eq_batch_pen_readMove p r h Q ▸ w)

/- 128: dunnage/dunnageref01.ReadVar; loop 5: [v, i] -/
def tab_dunnageref01_ReadVar : Tab := ⟨[(5, ⟨[(7, .leaf (.int .u64)), (8, .leaf (.int .i64))], [4, 5, 6, 9, 12, 13, 14, 15, 16, 17, 18, 19, 20, 21, 22, 23, 24, 25, 26, 27, 28, 29, 30, 31, 32, 33, 34, 35, 36, 37, 38, 39, 40, 41, 42, 43, 44, 45, 46, 47, 48, 49, 50, 51, 52, 53, 54, 55, 56, 57, 58, 59, 60, 61, 62, 63]⟩)], [], [(10, (chainT [(0, false), (1, false), (2, false)] (.join ⟨[(39, .leaf .bool)], [37, 38]⟩ (chainT [(3, false), (4, false), (5, false)] .nil) (chainT [(6, false), (7, false), (8, false), (9, false), (10, false), (11, false), (12, false), (13, false)] .nil)))), (7, (chainT [(0, false), (1, false), (2, false), (3, false), (4, false)] (.join ⟨[(27, .leaf .bool)], [21, 22, 23, 24, 25, 26]⟩ (chainT [(5, false), (6, false), (7, false), (8, false), (9, false), (10, false), (11, false)] .nil) .nil)))]⟩
def wp_dunnageref01_ReadVar (b : Sl) (at' : Int) (h : Mem) (Q : Int → Int → Int → Mem → Prop) : Prop :=
  Br (decide (at' < 0)) (Q 0 0 1 h)
    (∃ (I1 : Int → Int → Mem → Prop),
      ∃ (I2 : Int → Int → Mem → Nat),
        I1 0 0 h ∧
          ∀ (j3 : Fr) (n4 n5 : Int) (h6 : Mem),
            I1 n4 n5 h6 →
              Br (decide (n5 < 10))
                (∃ (I7 : Bool → Mem → Prop),
                  (∀ (j8 : Fr) (b9 : Bool) (h10 : Mem),
                      I7 b9 h10 →
                        Br b9 (Q 0 0 10 h10)
                          (Idx b.a b.len (IntKind.i64.wrap (at' + n5)) fun (p11 : Addr) =>
                            Ld PG ty_uint8 (p11.add ((IntKind.i64.wrap (at' + n5)).toNat * 1)) (Kd.one (Cmp.leaf (Leaf.int IntKind.u8))) h10 fun (n12 : Int) =>
                              ∃ (I13 : Bool → Mem → Prop),
                                (∀ (j14 : Fr) (b15 : Bool) (h16 : Mem),
                                    I13 b15 h16 →
                                      Br b15 (Q 0 0 11 h16)
                                        (Br (decide (n5 > 0))
                                          (Br (n12 == 0) (Q 0 0 11 h16)
                                            (Chk (decide (0 ≤ IntKind.u64.wrap (7 * IntKind.u64.wrap n5)))
                                              (Br (decide (n12 < 128))
                                                (Q
                                                  (bitsOf BinOp.or IntKind.u64 n4
                                                    (IntKind.u64.wrap
                                                      (IntKind.u64.wrap (bitsOf BinOp.and IntKind.u8 n12 127) * 2 ^ shN IntKind.u64 (IntKind.u64.wrap (7 * IntKind.u64.wrap n5)))))
                                                  (IntKind.i64.wrap (IntKind.i64.wrap (at' + n5) + 1)) 0 h16)
                                                (I1
                                                    (bitsOf BinOp.or IntKind.u64 n4
                                                      (IntKind.u64.wrap
                                                        (IntKind.u64.wrap (bitsOf BinOp.and IntKind.u8 n12 127) * 2 ^ shN IntKind.u64 (IntKind.u64.wrap (7 * IntKind.u64.wrap n5)))))
                                                    (IntKind.i64.wrap (n5 + 1)) h16 ∧
                                                  I2
                                                      (bitsOf BinOp.or IntKind.u64 n4
                                                        (IntKind.u64.wrap
                                                          (IntKind.u64.wrap (bitsOf BinOp.and IntKind.u8 n12 127) *
                                                            2 ^ shN IntKind.u64 (IntKind.u64.wrap (7 * IntKind.u64.wrap n5)))))
                                                      (IntKind.i64.wrap (n5 + 1)) h16 <
                                                    I2 n4 n5 h6))))
                                          (Chk (decide (0 ≤ IntKind.u64.wrap (7 * IntKind.u64.wrap n5)))
                                            (Br (decide (n12 < 128))
                                              (Q
                                                (bitsOf BinOp.or IntKind.u64 n4
                                                  (IntKind.u64.wrap
                                                    (IntKind.u64.wrap (bitsOf BinOp.and IntKind.u8 n12 127) * 2 ^ shN IntKind.u64 (IntKind.u64.wrap (7 * IntKind.u64.wrap n5)))))
                                                (IntKind.i64.wrap (IntKind.i64.wrap (at' + n5) + 1)) 0 h16)
                                              (I1
                                                  (bitsOf BinOp.or IntKind.u64 n4
                                                    (IntKind.u64.wrap
                                                      (IntKind.u64.wrap (bitsOf BinOp.and IntKind.u8 n12 127) * 2 ^ shN IntKind.u64 (IntKind.u64.wrap (7 * IntKind.u64.wrap n5)))))
                                                  (IntKind.i64.wrap (n5 + 1)) h16 ∧
                                                I2
                                                    (bitsOf BinOp.or IntKind.u64 n4
                                                      (IntKind.u64.wrap
                                                        (IntKind.u64.wrap (bitsOf BinOp.and IntKind.u8 n12 127) * 2 ^ shN IntKind.u64 (IntKind.u64.wrap (7 * IntKind.u64.wrap n5)))))
                                                    (IntKind.i64.wrap (n5 + 1)) h16 <
                                                  I2 n4 n5 h6))))) ∧
                                  Br (n5 == 9) (I13 (decide (n12 > 1)) h10) (I13 false h10))) ∧
                    Br (decide (at' ≥ (↑b.len : Int))) (I7 true h6) (I7 (decide (IntKind.i64.wrap (at' + n5) ≥ (↑b.len : Int))) h6))
                (Q 0 0 11 h6))
theorem eq_dunnageref01_ReadVar (b : Sl) (at' : Int) (h : Mem) (Q : Int → Int → Int → Mem → Prop) : wp_dunnageref01_ReadVar b at' h Q = evFn PG fn_dunnageref01_ReadVar tab_dunnageref01_ReadVar [.slice b.a b.len b.cap, .int .i64 at'] (.tup [(.leaf (.int .u64)), (.leaf (.int .i64)), (.leaf (.int .i64))]) h Q := by kernel_rfl
theorem ok_dunnageref01_ReadVar : okF PG fn_dunnageref01_ReadVar tab_dunnageref01_ReadVar = true := by kernel_rfl
theorem call_dunnageref01_ReadVar {b : Sl} {at' : Int} {h : Mem} {Q : Int → Int → Int → Mem → Prop} (w : wp_dunnageref01_ReadVar b at' h Q) : CallF PG fn_dunnageref01_ReadVar [.slice b.a b.len b.cap, .int .i64 at'] (.tup [(.leaf (.int .u64)), (.leaf (.int .i64)), (.leaf (.int .i64))]) h Q := callF_of PM ok_dunnageref01_ReadVar (eq_dunnageref01_ReadVar b at' h Q ▸ w)

/- 129: (*dunnage/dunnageref01.Reader).Text -/
def tab_dunnageref01_Reader_Text : Tab := ⟨[], [], []⟩
def wp_dunnageref01_Reader_Text (r : Option Addr) (most : Int) (h : Mem) (Q : Sl → Mem → Prop) : Prop :=
  Deref r fun (p1 : Addr) =>
    Ld PG ty_api_Errno (p1.add 2) (Kd.one (Cmp.leaf (Leaf.int IntKind.i64))) h fun (n2 : Int) =>
      Br (n2 != 0) (Q (Sl.mk none 0 0) h)
        (Deref r fun (p3 : Addr) =>
          Ld PG ty_sl_uint8 p3 (Kd.one (Cmp.leaf Leaf.sl)) h fun (s4 : Sl) =>
            Deref r fun (p5 : Addr) =>
              Ld PG ty_int (p5.add 1) (Kd.one (Cmp.leaf (Leaf.int IntKind.i64))) h fun (n6 : Int) =>
                CallF PG fn_dunnageref01_ReadText [Value.slice s4.a s4.len s4.cap, Value.int IntKind.i64 n6, Value.int IntKind.i64 most]
                  (Kd.tup [Cmp.leaf Leaf.sl, Cmp.leaf (Leaf.int IntKind.i64), Cmp.leaf (Leaf.int IntKind.i64)]) h fun (s7 : Sl) (n8 n9 : Int) (h10 : Mem) =>
                  Br (n9 != 0) (Deref r fun (p11 : Addr) => St PG ty_api_Errno (p11.add 2) (Value.int IntKind.i64 n9) h10 fun (h12 : Mem) => Q (Sl.mk none 0 0) h12)
                    (Deref r fun (p13 : Addr) => St PG ty_int (p13.add 1) (Value.int IntKind.i64 n8) h10 fun (h14 : Mem) => Q (Sl.mk s7.a s7.len s7.cap) h14))
theorem eq_dunnageref01_Reader_Text (r : Option Addr) (most : Int) (h : Mem) (Q : Sl → Mem → Prop) : wp_dunnageref01_Reader_Text r most h Q = evFn PG fn_dunnageref01_Reader_Text tab_dunnageref01_Reader_Text [.pointer r, .int .i64 most] (.one (.leaf .sl)) h Q := by kernel_rfl
theorem ok_dunnageref01_Reader_Text : okF PG fn_dunnageref01_Reader_Text tab_dunnageref01_Reader_Text = true := by kernel_rfl
theorem call_dunnageref01_Reader_Text {r : Option Addr} {most : Int} {h : Mem} {Q : Sl → Mem → Prop} (w : wp_dunnageref01_Reader_Text r most h Q) : CallF PG fn_dunnageref01_Reader_Text [.pointer r, .int .i64 most] (.one (.leaf .sl)) h Q := callF_of PM ok_dunnageref01_Reader_Text (eq_dunnageref01_Reader_Text r most h Q ▸ w)

/- 130: dunnage/dunnagehelp.Same[byte]; loop 4: [i] -/
def tab_dunnagehelp_Same_byte_ : Tab := ⟨[(4, ⟨[(7, .leaf (.int .i64))], [6, 13, 14, 15, 16, 17, 18, 19, 20, 21, 22, 23, 24, 25, 26, 27, 28, 29]⟩)], [], []⟩
def wp_dunnagehelp_Same_byte_ (a : Sl) (b : Sl) (one : Value) (h : Mem) (Q : Bool → Mem → Prop) : Prop :=
  Br ((↑a.len : Int) != (↑b.len : Int)) (Q false h)
    (∃ (I1 : Int → Mem → Prop),
      ∃ (I2 : Int → Mem → Nat),
        I1 0 h ∧
          ∀ (j3 : Fr) (n4 : Int) (h5 : Mem),
            I1 n4 h5 →
              Br (decide (n4 < (↑a.len : Int)))
                (Idx a.a a.len n4 fun (p6 : Addr) =>
                  Ld PG ty_uint8 (p6.add (n4.toNat * 1)) (Kd.one (Cmp.leaf (Leaf.int IntKind.u8))) h5 fun (n7 : Int) =>
                    Idx b.a b.len n4 fun (p8 : Addr) =>
                      Ld PG ty_uint8 (p8.add (n4.toNat * 1)) (Kd.one (Cmp.leaf (Leaf.int IntKind.u8))) h5 fun (n9 : Int) =>
                        CallV PG one [Value.int IntKind.u8 n7, Value.int IntKind.u8 n9] (Kd.one (Cmp.leaf Leaf.bool)) h5 fun (b10 : Bool) (h11 : Mem) =>
                          Br (!b10) (Q false h11) (I1 (IntKind.i64.wrap (n4 + 1)) h11 ∧ I2 (IntKind.i64.wrap (n4 + 1)) h11 < I2 n4 h5))
                (Q true h5))
theorem eq_dunnagehelp_Same_byte_ (a : Sl) (b : Sl) (one : Value) (h : Mem) (Q : Bool → Mem → Prop) : wp_dunnagehelp_Same_byte_ a b one h Q = evFn PG fn_dunnagehelp_Same_byte_ tab_dunnagehelp_Same_byte_ [.slice a.a a.len a.cap, .slice b.a b.len b.cap, one] (.one (.leaf .bool)) h Q := by kernel_rfl
theorem ok_dunnagehelp_Same_byte_ : okF PG fn_dunnagehelp_Same_byte_ tab_dunnagehelp_Same_byte_ = true := by kernel_rfl
theorem call_dunnagehelp_Same_byte_ {a : Sl} {b : Sl} {one : Value} {h : Mem} {Q : Bool → Mem → Prop} (w : wp_dunnagehelp_Same_byte_ a b one h Q) : CallF PG fn_dunnagehelp_Same_byte_ [.slice a.a a.len a.cap, .slice b.a b.len b.cap, one] (.one (.leaf .bool)) h Q := callF_of PM ok_dunnagehelp_Same_byte_ (eq_dunnagehelp_Same_byte_ a b one h Q ▸ w)

/- 131: dunnage/dunnagehelp.Plain[byte]$1 -/
def tab_dunnagehelp_Plain_byte_1 : Tab := ⟨[], [], []⟩
def wp_dunnagehelp_Plain_byte_1 (x : Int) (y : Int) (h : Mem) (Q : Bool → Mem → Prop) : Prop :=
  Q (x == y) h
theorem eq_dunnagehelp_Plain_byte_1 (x : Int) (y : Int) (h : Mem) (Q : Bool → Mem → Prop) : wp_dunnagehelp_Plain_byte_1 x y h Q = evFn PG fn_dunnagehelp_Plain_byte_1 tab_dunnagehelp_Plain_byte_1 [.int .u8 x, .int .u8 y] (.one (.leaf .bool)) h Q := by kernel_rfl
theorem ok_dunnagehelp_Plain_byte_1 : okF PG fn_dunnagehelp_Plain_byte_1 tab_dunnagehelp_Plain_byte_1 = true := by kernel_rfl
theorem call_dunnagehelp_Plain_byte_1 {x : Int} {y : Int} {h : Mem} {Q : Bool → Mem → Prop} (w : wp_dunnagehelp_Plain_byte_1 x y h Q) : CallF PG fn_dunnagehelp_Plain_byte_1 [.int .u8 x, .int .u8 y] (.one (.leaf .bool)) h Q := callF_of PM ok_dunnagehelp_Plain_byte_1 (eq_dunnagehelp_Plain_byte_1 x y h Q ▸ w)

/- 134: internal/bytealg.CompareString -/
def tab_internal_bytealg_CompareString : Tab := ⟨[], [], []⟩
def wp_internal_bytealg_CompareString (a : ByteArray) (b : ByteArray) (h : Mem) (Q : Int → Mem → Prop) : Prop :=
  CallF PG fn_internal_bytealg_abigen_runtime_cmpstring [Value.string a, Value.string b] (Kd.one (Cmp.leaf (Leaf.int IntKind.i64))) h fun (n1 : Int) (h2 : Mem) => Q n1 h2
theorem eq_internal_bytealg_CompareString (a : ByteArray) (b : ByteArray) (h : Mem) (Q : Int → Mem → Prop) : wp_internal_bytealg_CompareString a b h Q = evFn PG fn_internal_bytealg_CompareString tab_internal_bytealg_CompareString [.string a, .string b] (.one (.leaf (.int .i64))) h Q := by kernel_rfl
theorem ok_internal_bytealg_CompareString : okF PG fn_internal_bytealg_CompareString tab_internal_bytealg_CompareString = true := by kernel_rfl
theorem call_internal_bytealg_CompareString {a : ByteArray} {b : ByteArray} {h : Mem} {Q : Int → Mem → Prop} (w : wp_internal_bytealg_CompareString a b h Q) : CallF PG fn_internal_bytealg_CompareString [.string a, .string b] (.one (.leaf (.int .i64))) h Q := callF_of PM ok_internal_bytealg_CompareString (eq_internal_bytealg_CompareString a b h Q ▸ w)

/- 135: slices.IndexFunc[[]dunnage/api.Op,dunnage/api.Op]; loop 2: [] -/
def tab_slices_IndexFunc_api_Op_api_Op_ : Tab := ⟨[(2, ⟨[(8, .leaf (.int .i64))], [4, 5, 9, 10, 11, 12, 13, 14, 15, 16, 17, 18]⟩)], [], []⟩
def wp_slices_IndexFunc_api_Op_api_Op_ (s : Sl) (f : Value) (h : Mem) (Q : Int → Mem → Prop) : Prop :=
  ∃ (I1 : Int → Mem → Prop),
    ∃ (I2 : Int → Mem → Nat),
      I1 0 h ∧
        ∀ (j3 : Fr) (n4 : Int) (h5 : Mem),
          I1 n4 h5 →
            Br (decide (n4 < (↑s.len : Int)))
              (Idx s.a s.len n4 fun (p6 : Addr) =>
                Ld PG ty_api_Op (p6.add (n4.toNat * 3)) (Kd.one (Cmp.agg [Leaf.str, Leaf.sl, Leaf.bool])) h5 fun (t7 : ByteArray) (s8 : Sl) (b9 : Bool) =>
                  CallV PG f [Value.agg #[Value.string t7, Value.slice s8.a s8.len s8.cap, Value.bool b9]] (Kd.one (Cmp.leaf Leaf.bool)) h5 fun (b10 : Bool) (h11 : Mem) =>
                    Br b10 (Q n4 h11) (I1 (IntKind.i64.wrap (n4 + 1)) h11 ∧ I2 (IntKind.i64.wrap (n4 + 1)) h11 < I2 n4 h5))
              (Q (-1) h5)
theorem eq_slices_IndexFunc_api_Op_api_Op_ (s : Sl) (f : Value) (h : Mem) (Q : Int → Mem → Prop) : wp_slices_IndexFunc_api_Op_api_Op_ s f h Q = evFn PG fn_slices_IndexFunc_api_Op_api_Op_ tab_slices_IndexFunc_api_Op_api_Op_ [.slice s.a s.len s.cap, f] (.one (.leaf (.int .i64))) h Q := by kernel_rfl
theorem ok_slices_IndexFunc_api_Op_api_Op_ : okF PG fn_slices_IndexFunc_api_Op_api_Op_ tab_slices_IndexFunc_api_Op_api_Op_ = true := by kernel_rfl
theorem call_slices_IndexFunc_api_Op_api_Op_ {s : Sl} {f : Value} {h : Mem} {Q : Int → Mem → Prop} (w : wp_slices_IndexFunc_api_Op_api_Op_ s f h Q) : CallF PG fn_slices_IndexFunc_api_Op_api_Op_ [.slice s.a s.len s.cap, f] (.one (.leaf (.int .i64))) h Q := callF_of PM ok_slices_IndexFunc_api_Op_api_Op_ (eq_slices_IndexFunc_api_Op_api_Op_ s f h Q ▸ w)

/- 136: (*dunnage/batch.pen).nums; loop 1: [] -/
def tab_batch_pen_nums : Tab := ⟨[(1, ⟨[(8, .leaf (.int .i64))], [5, 9, 10, 11, 12, 13, 14, 15, 16, 17, 18, 19, 20, 21, 22]⟩)], [], []⟩
def wp_batch_pen_nums (p : Option Addr) (l : Sl) (h : Mem) (Q : Mem → Prop) : Prop :=
  ∃ (I1 : Int → Mem → Prop),
    ∃ (I2 : Int → Mem → Nat),
      I1 0 h ∧
        ∀ (j3 : Fr) (n4 : Int) (h5 : Mem),
          I1 n4 h5 →
            Br (decide (n4 < (↑l.len : Int)))
              (Idx l.a l.len n4 fun (p6 : Addr) =>
                Ld PG ty_uint64 (p6.add (n4.toNat * 1)) (Kd.one (Cmp.leaf (Leaf.int IntKind.u64))) h5 fun (n7 : Int) =>
                  Deref p fun (p8 : Addr) =>
                    Ld PG ty_sl_uint8 p8 (Kd.one (Cmp.leaf Leaf.sl)) h5 fun (s9 : Sl) =>
                      CallF PG fn_word_Var [Value.int IntKind.u64 n7] (Kd.one (Cmp.leaf Leaf.sl)) h5 fun (s10 : Sl) (h11 : Mem) =>
                        (Ld PG ty_sl_uint8 p8 (Kd.one (Cmp.leaf Leaf.sl)) h11 fun (s12 : Sl) => Value.slice s12.a s12.len s12.cap = Value.slice s9.a s9.len s9.cap) ∧
                          PrimT PG (Builtin.append_ #[ty_sl_uint8, ty_sl_uint8] ty_sl_uint8 #[Value.slice s9.a s9.len s9.cap, Value.slice s10.a s10.len s10.cap]) (Kd.one (Cmp.leaf Leaf.sl)) h11
                            fun (s13 : Sl) (h14 : Mem) =>
                            Deref p fun (p15 : Addr) =>
                              St PG ty_sl_uint8 p15 (Value.slice s13.a s13.len s13.cap) h14 fun (h16 : Mem) =>
                                I1 (IntKind.i64.wrap (n4 + 1)) h16 ∧ I2 (IntKind.i64.wrap (n4 + 1)) h16 < I2 n4 h5)
              (Q h5)
theorem eq_batch_pen_nums (p : Option Addr) (l : Sl) (h : Mem) (Q : Mem → Prop) : wp_batch_pen_nums p l h Q = evFn PG fn_batch_pen_nums tab_batch_pen_nums [.pointer p, .slice l.a l.len l.cap] (.tup []) h Q := by kernel_rfl
theorem ok_batch_pen_nums : okF PG fn_batch_pen_nums tab_batch_pen_nums = true := by kernel_rfl
theorem call_batch_pen_nums {p : Option Addr} {l : Sl} {h : Mem} {Q : Mem → Prop} (w : wp_batch_pen_nums p l h Q) : CallF PG fn_batch_pen_nums [.pointer p, .slice l.a l.len l.cap] (.tup []) h Q := callF_of PM ok_batch_pen_nums (eq_batch_pen_nums p l h Q ▸ w)

/- 137: dunnage/word.Text -/
def tab_word_Text : Tab := ⟨[], [], []⟩
def wp_word_Text (t : Sl) (h : Mem) (Q : Sl → Mem → Prop) : Prop :=
  CallF PG fn_word_Var [Value.int IntKind.u64 (IntKind.u64.wrap (↑t.len : Int))] (Kd.one (Cmp.leaf Leaf.sl)) h fun (s1 : Sl) (h2 : Mem) =>
    PrimT PG (Builtin.append_ #[ty_sl_uint8, ty_sl_uint8] ty_sl_uint8 #[Value.slice s1.a s1.len s1.cap, Value.slice t.a t.len t.cap]) (Kd.one (Cmp.leaf Leaf.sl)) h2 fun (s3 : Sl) (h4 : Mem) =>
      Q (Sl.mk s3.a s3.len s3.cap) h4
theorem eq_word_Text (t : Sl) (h : Mem) (Q : Sl → Mem → Prop) : wp_word_Text t h Q = evFn PG fn_word_Text tab_word_Text [.slice t.a t.len t.cap] (.one (.leaf .sl)) h Q := by kernel_rfl
theorem ok_word_Text : okF PG fn_word_Text tab_word_Text = true := by kernel_rfl
theorem call_word_Text {t : Sl} {h : Mem} {Q : Sl → Mem → Prop} (w : wp_word_Text t h Q) : CallF PG fn_word_Text [.slice t.a t.len t.cap] (.one (.leaf .sl)) h Q := callF_of PM ok_word_Text (eq_word_Text t h Q ▸ w)

/- 138: slices.rotateLeft[dunnage/api.Pair] -/
def tab_slices_rotateLeft_api_Pair_ : Tab := ⟨[], [], []⟩
def wp_slices_rotateLeft_api_Pair_ (s : Sl) (r : Int) (h : Mem) (Q : Mem → Prop) : Prop :=
  Cut 2 s.a s.len s.cap none (some r) none fun (s1 : Sl) =>
    CallF PG fn_slices_Reverse_api_Pair_api_Pair_ [Value.slice s1.a s1.len s1.cap] (Kd.tup []) h fun (h2 : Mem) =>
      Cut 2 s.a s.len s.cap (some r) none none fun (s3 : Sl) =>
        CallF PG fn_slices_Reverse_api_Pair_api_Pair_ [Value.slice s3.a s3.len s3.cap] (Kd.tup []) h2 fun (h4 : Mem) => CallF PG fn_slices_Reverse_api_Pair_api_Pair_ [Value.slice s.a s.len s.cap] (Kd.tup []) h4 fun (h5 : Mem) => Q h5
theorem eq_slices_rotateLeft_api_Pair_ (s : Sl) (r : Int) (h : Mem) (Q : Mem → Prop) : wp_slices_rotateLeft_api_Pair_ s r h Q = evFn PG fn_slices_rotateLeft_api_Pair_ tab_slices_rotateLeft_api_Pair_ [.slice s.a s.len s.cap, .int .i64 r] (.tup []) h Q := by kernel_rfl
theorem ok_slices_rotateLeft_api_Pair_ : okF PG fn_slices_rotateLeft_api_Pair_ tab_slices_rotateLeft_api_Pair_ = true := by kernel_rfl
theorem call_slices_rotateLeft_api_Pair_ {s : Sl} {r : Int} {h : Mem} {Q : Mem → Prop} (w : wp_slices_rotateLeft_api_Pair_ s r h Q) : CallF PG fn_slices_rotateLeft_api_Pair_ [.slice s.a s.len s.cap, .int .i64 r] (.tup []) h Q := callF_of PM ok_slices_rotateLeft_api_Pair_ (eq_slices_rotateLeft_api_Pair_ s r h Q ▸ w)

/- 139: (*dunnage/batch.pen).num -/
def tab_batch_pen_num : Tab := ⟨[], [], []⟩
def wp_batch_pen_num (p : Option Addr) (h : Mem) (Q : Int → Mem → Prop) : Prop :=
  Deref p fun (p1 : Addr) =>
    Ld PG ty_api_Errno (p1.add 2) (Kd.one (Cmp.leaf (Leaf.int IntKind.i64))) h fun (n2 : Int) =>
      Br (n2 != 0) (Q 0 h)
        (Deref p fun (p3 : Addr) =>
          Ld PG ty_sl_uint8 p3 (Kd.one (Cmp.leaf Leaf.sl)) h fun (s4 : Sl) =>
            Deref p fun (p5 : Addr) =>
              Ld PG ty_int (p5.add 1) (Kd.one (Cmp.leaf (Leaf.int IntKind.i64))) h fun (n6 : Int) =>
                CallF PG fn_word_ReadVar [Value.slice s4.a s4.len s4.cap, Value.int IntKind.i64 n6]
                  (Kd.tup [Cmp.leaf (Leaf.int IntKind.u64), Cmp.leaf (Leaf.int IntKind.i64), Cmp.leaf (Leaf.int IntKind.i64)]) h fun (n7 n8 n9 : Int) (h10 : Mem) =>
                  Br (n9 != 0) (CallF PG fn_batch_pen_fail [Value.pointer p, Value.int IntKind.i64 n9] (Kd.tup []) h10 fun (h11 : Mem) => Q 0 h11)
                    (Deref p fun (p12 : Addr) => St PG ty_int (p12.add 1) (Value.int IntKind.i64 n8) h10 fun (h13 : Mem) => Q n7 h13))
theorem eq_batch_pen_num (p : Option Addr) (h : Mem) (Q : Int → Mem → Prop) : wp_batch_pen_num p h Q = evFn PG fn_batch_pen_num tab_batch_pen_num [.pointer p] (.one (.leaf (.int .u64))) h Q := by kernel_rfl
theorem ok_batch_pen_num : okF PG fn_batch_pen_num tab_batch_pen_num = true := by kernel_rfl
theorem call_batch_pen_num {p : Option Addr} {h : Mem} {Q : Int → Mem → Prop} (w : wp_batch_pen_num p h Q) : CallF PG fn_batch_pen_num [.pointer p] (.one (.leaf (.int .u64))) h Q := callF_of PM ok_batch_pen_num (eq_batch_pen_num p h Q ▸ w)

/- 140: (*dunnage/batch.pen).key -/
def tab_batch_pen_key : Tab := ⟨[], [], []⟩
def wp_batch_pen_key (p : Option Addr) (h : Mem) (Q : ByteArray → Mem → Prop) : Prop :=
  Deref p fun (p1 : Addr) =>
    Ld PG ty_api_Errno (p1.add 2) (Kd.one (Cmp.leaf (Leaf.int IntKind.i64))) h fun (n2 : Int) =>
      Br (n2 != 0) (Q (ByteArray.mk #[]) h)
        (Deref p fun (p3 : Addr) =>
          Ld PG ty_sl_uint8 p3 (Kd.one (Cmp.leaf Leaf.sl)) h fun (s4 : Sl) =>
            Deref p fun (p5 : Addr) =>
              Ld PG ty_int (p5.add 1) (Kd.one (Cmp.leaf (Leaf.int IntKind.i64))) h fun (n6 : Int) =>
                CallF PG fn_word_ReadText [Value.slice s4.a s4.len s4.cap, Value.int IntKind.i64 n6, Value.int IntKind.i64 64]
                  (Kd.tup [Cmp.leaf Leaf.sl, Cmp.leaf (Leaf.int IntKind.i64), Cmp.leaf (Leaf.int IntKind.i64)]) h fun (s7 : Sl) (n8 n9 : Int) (h10 : Mem) =>
                  Br (n9 != 0) (CallF PG fn_batch_pen_fail [Value.pointer p, Value.int IntKind.i64 n9] (Kd.tup []) h10 fun (h11 : Mem) => Q (ByteArray.mk #[]) h11)
                    (Deref p fun (p12 : Addr) =>
                      St PG ty_int (p12.add 1) (Value.int IntKind.i64 n8) h10 fun (h13 : Mem) =>
                        ReadT PG (Conv.bytesToString (Value.slice s7.a s7.len s7.cap)) (Kd.one (Cmp.leaf Leaf.str)) h13 fun (t14 : ByteArray) => Q t14 h13))
theorem eq_batch_pen_key (p : Option Addr) (h : Mem) (Q : ByteArray → Mem → Prop) : wp_batch_pen_key p h Q = evFn PG fn_batch_pen_key tab_batch_pen_key [.pointer p] (.one (.leaf .str)) h Q := by kernel_rfl
theorem ok_batch_pen_key : okF PG fn_batch_pen_key tab_batch_pen_key = true := by kernel_rfl
theorem call_batch_pen_key {p : Option Addr} {h : Mem} {Q : ByteArray → Mem → Prop} (w : wp_batch_pen_key p h Q) : CallF PG fn_batch_pen_key [.pointer p] (.one (.leaf .str)) h Q := callF_of PM ok_batch_pen_key (eq_batch_pen_key p h Q ▸ w)

/- 141: (*dunnage/batch.pen).int -/
def tab_batch_pen_int : Tab := ⟨[], [], []⟩
def wp_batch_pen_int (p : Option Addr) (h : Mem) (Q : Int → Mem → Prop) : Prop :=
  CallF PG fn_batch_pen_num [Value.pointer p] (Kd.one (Cmp.leaf (Leaf.int IntKind.u64))) h fun (n1 : Int) (h2 : Mem) =>
    Br (decide (n1 > 4611686018427387904)) (CallF PG fn_batch_pen_fail [Value.pointer p, Value.int IntKind.i64 11] (Kd.tup []) h2 fun (h3 : Mem) => Q 0 h3) (Q (IntKind.i64.wrap n1) h2)
theorem eq_batch_pen_int (p : Option Addr) (h : Mem) (Q : Int → Mem → Prop) : wp_batch_pen_int p h Q = evFn PG fn_batch_pen_int tab_batch_pen_int [.pointer p] (.one (.leaf (.int .i64))) h Q := by kernel_rfl
theorem ok_batch_pen_int : okF PG fn_batch_pen_int tab_batch_pen_int = true := by kernel_rfl
theorem call_batch_pen_int {p : Option Addr} {h : Mem} {Q : Int → Mem → Prop} (w : wp_batch_pen_int p h Q) : CallF PG fn_batch_pen_int [.pointer p] (.one (.leaf (.int .i64))) h Q := callF_of PM ok_batch_pen_int (eq_batch_pen_int p h Q ▸ w)

/- 142: dunnage/dunnageref01.ReadText -/
def tab_dunnageref01_ReadText : Tab := ⟨[], [], []⟩
def wp_dunnageref01_ReadText (b : Sl) (at' : Int) (most : Int) (h : Mem) (Q : Sl → Int → Int → Mem → Prop) : Prop :=
  CallF PG fn_dunnageref01_ReadVar [Value.slice b.a b.len b.cap, Value.int IntKind.i64 at']
    (Kd.tup [Cmp.leaf (Leaf.int IntKind.u64), Cmp.leaf (Leaf.int IntKind.i64), Cmp.leaf (Leaf.int IntKind.i64)]) h fun (n1 n2 n3 : Int) (h4 : Mem) =>
    Br (n3 != 0) (Q (Sl.mk none 0 0) 0 n3 h4)
      (Br (decide (n1 > IntKind.u64.wrap (if most > 0 then most else 0))) (Q (Sl.mk none 0 0) 0 4 h4)
        (Br (decide (IntKind.u64.wrap (IntKind.i64.wrap ((↑b.len : Int) - n2)) < n1)) (Q (Sl.mk none 0 0) 0 10 h4)
          (Cut 1 b.a b.len b.cap (some n2) (some (IntKind.i64.wrap (n2 + IntKind.i64.wrap n1))) none fun (s5 : Sl) =>
            PrimT PG (Builtin.append_ #[ty_sl_uint8, ty_sl_uint8] ty_sl_uint8 #[Value.slice none 0 0, Value.slice s5.a s5.len s5.cap]) (Kd.one (Cmp.leaf Leaf.sl)) h4 fun (s6 : Sl) (h7 : Mem) =>
              Q (Sl.mk s6.a s6.len s6.cap) (IntKind.i64.wrap (n2 + IntKind.i64.wrap n1)) 0 h7)))
theorem eq_dunnageref01_ReadText (b : Sl) (at' : Int) (most : Int) (h : Mem) (Q : Sl → Int → Int → Mem → Prop) : wp_dunnageref01_ReadText b at' most h Q = evFn PG fn_dunnageref01_ReadText tab_dunnageref01_ReadText [.slice b.a b.len b.cap, .int .i64 at', .int .i64 most] (.tup [(.leaf .sl), (.leaf (.int .i64)), (.leaf (.int .i64))]) h Q := by kernel_rfl
theorem ok_dunnageref01_ReadText : okF PG fn_dunnageref01_ReadText tab_dunnageref01_ReadText = true := by kernel_rfl
theorem call_dunnageref01_ReadText {b : Sl} {at' : Int} {most : Int} {h : Mem} {Q : Sl → Int → Int → Mem → Prop} (w : wp_dunnageref01_ReadText b at' most h Q) : CallF PG fn_dunnageref01_ReadText [.slice b.a b.len b.cap, .int .i64 at', .int .i64 most] (.tup [(.leaf .sl), (.leaf (.int .i64)), (.leaf (.int .i64))]) h Q := callF_of PM ok_dunnageref01_ReadText (eq_dunnageref01_ReadText b at' most h Q ▸ w)

/- 154: slices.Reverse[[]dunnage/api.Pair,dunnage/api.Pair]; loop 1: [i, j] -/
def tab_slices_Reverse_api_Pair_api_Pair_ : Tab := ⟨[(1, ⟨[(2, .leaf (.int .i64)), (3, .leaf (.int .i64))], [7, 8, 9, 10, 11, 12, 13, 14, 15, 16, 17, 18, 19, 20, 21, 22, 23, 24, 25, 26, 27]⟩)], [], []⟩
def wp_slices_Reverse_api_Pair_api_Pair_ (s : Sl) (h : Mem) (Q : Mem → Prop) : Prop :=
  ∃ (I1 : Int → Int → Mem → Prop),
    ∃ (I2 : Int → Int → Mem → Nat),
      I1 0 (IntKind.i64.wrap ((↑s.len : Int) - 1)) h ∧
        ∀ (j3 : Fr) (n4 n5 : Int) (h6 : Mem),
          I1 n4 n5 h6 →
            Br (decide (n4 < n5))
              (Idx s.a s.len n5 fun (p7 : Addr) =>
                Ld PG ty_api_Pair (p7.add (n5.toNat * 2)) (Kd.one (Cmp.agg [Leaf.str, Leaf.sl])) h6 fun (t8 : ByteArray) (s9 : Sl) =>
                  Idx s.a s.len n4 fun (p10 : Addr) =>
                    Ld PG ty_api_Pair (p10.add (n4.toNat * 2)) (Kd.one (Cmp.agg [Leaf.str, Leaf.sl])) h6 fun (t11 : ByteArray) (s12 : Sl) =>
                      Idx s.a s.len n4 fun (p13 : Addr) =>
                        St PG ty_api_Pair (p13.add (n4.toNat * 2)) (Value.agg #[Value.string t8, Value.slice s9.a s9.len s9.cap]) h6 fun (h14 : Mem) =>
                          Idx s.a s.len n5 fun (p15 : Addr) =>
                            St PG ty_api_Pair (p15.add (n5.toNat * 2)) (Value.agg #[Value.string t11, Value.slice s12.a s12.len s12.cap]) h14 fun (h16 : Mem) =>
                              I1 (IntKind.i64.wrap (n4 + 1)) (IntKind.i64.wrap (n5 - 1)) h16 ∧ I2 (IntKind.i64.wrap (n4 + 1)) (IntKind.i64.wrap (n5 - 1)) h16 < I2 n4 n5 h6)
              (Q h6)
theorem eq_slices_Reverse_api_Pair_api_Pair_ (s : Sl) (h : Mem) (Q : Mem → Prop) : wp_slices_Reverse_api_Pair_api_Pair_ s h Q = evFn PG fn_slices_Reverse_api_Pair_api_Pair_ tab_slices_Reverse_api_Pair_api_Pair_ [.slice s.a s.len s.cap] (.tup []) h Q := by kernel_rfl
theorem ok_slices_Reverse_api_Pair_api_Pair_ : okF PG fn_slices_Reverse_api_Pair_api_Pair_ tab_slices_Reverse_api_Pair_api_Pair_ = true := by kernel_rfl
theorem call_slices_Reverse_api_Pair_api_Pair_ {s : Sl} {h : Mem} {Q : Mem → Prop} (w : wp_slices_Reverse_api_Pair_api_Pair_ s h Q) : CallF PG fn_slices_Reverse_api_Pair_api_Pair_ [.slice s.a s.len s.cap] (.tup []) h Q := callF_of PM ok_slices_Reverse_api_Pair_api_Pair_ (eq_slices_Reverse_api_Pair_api_Pair_ s h Q ▸ w)

/- 155: dunnage/word.ReadVar -/
def tab_word_ReadVar : Tab := ⟨[], [], []⟩
def wp_word_ReadVar (b : Sl) (at' : Int) (h : Mem) (Q : Int → Int → Int → Mem → Prop) : Prop :=
  Br (decide (at' < 0)) (Q 0 0 1 h)
    (New (Obj.cells #[Value.int IntKind.u64 0] ty_uint64) h fun (k1 : Nat) (h2 : Mem) =>
      New (Obj.cells #[Value.int IntKind.i64 0] ty_int) h2 fun (k3 : Nat) (h4 : Mem) =>
        New (Obj.cells #[Value.bool false] ty_bool) h4 fun (k5 : Nat) (h6 : Mem) =>
          St PG ty_uint64 (Addr.mk k1 0 none) (Value.int IntKind.u64 0) h6 fun (h7 : Mem) =>
            St PG ty_int (Addr.mk k3 0 none) (Value.int IntKind.i64 0) h7 fun (h8 : Mem) =>
              St PG ty_bool (Addr.mk k5 0 none) (Value.bool true) h8 fun (h9 : Mem) =>
                New (Obj.cells #[Value.nilFunc] ty_word_walk) h9 fun (k10 : Nat) (h11 : Mem) =>
                  St PG ty_word_walk (Addr.mk k10 0 none)
                    (Value.agg
                      #[Value.func (Fn.func fn_word_ReadVar_1) #[] #[Value.pointer (some (Addr.mk k3 0 none)), Value.pointer (some (Addr.mk k5 0 none)), Value.pointer (some (Addr.mk k1 0 none))]])
                    h11 fun (h12 : Mem) =>
                    Ld PG ty_word_walk (Addr.mk k10 0 none) (Kd.one (Cmp.agg [Leaf.raw])) h12 fun (v13 : Value) =>
                      CallF PG fn_word_walk_over [Value.agg #[v13], Value.slice b.a b.len b.cap, Value.int IntKind.i64 at'] (Kd.tup [Cmp.leaf (Leaf.int IntKind.i64), Cmp.leaf Leaf.bool]) h12
                        fun (n14 : Int) (b15 : Bool) (h16 : Mem) =>
                        Ld PG ty_bool (Addr.mk k5 0 none) (Kd.one (Cmp.leaf Leaf.bool)) h16 fun (b17 : Bool) =>
                          Br (!b17) (Q 0 0 11 h16)
                            (Br b15 (Q 0 0 10 h16) (Ld PG ty_uint64 (Addr.mk k1 0 none) (Kd.one (Cmp.leaf (Leaf.int IntKind.u64))) h16 fun (n18 : Int) => Q n18 n14 0 h16)))
theorem eq_word_ReadVar (b : Sl) (at' : Int) (h : Mem) (Q : Int → Int → Int → Mem → Prop) : wp_word_ReadVar b at' h Q = evFn PG fn_word_ReadVar tab_word_ReadVar [.slice b.a b.len b.cap, .int .i64 at'] (.tup [(.leaf (.int .u64)), (.leaf (.int .i64)), (.leaf (.int .i64))]) h Q := by kernel_rfl
theorem ok_word_ReadVar : okF PG fn_word_ReadVar tab_word_ReadVar = true := by kernel_rfl
theorem call_word_ReadVar {b : Sl} {at' : Int} {h : Mem} {Q : Int → Int → Int → Mem → Prop} (w : wp_word_ReadVar b at' h Q) : CallF PG fn_word_ReadVar [.slice b.a b.len b.cap, .int .i64 at'] (.tup [(.leaf (.int .u64)), (.leaf (.int .i64)), (.leaf (.int .i64))]) h Q := callF_of PM ok_word_ReadVar (eq_word_ReadVar b at' h Q ▸ w)

/- 156: dunnage/word.ReadText -/
def tab_word_ReadText : Tab := ⟨[], [], []⟩
def wp_word_ReadText (b : Sl) (at' : Int) (most : Int) (h : Mem) (Q : Sl → Int → Int → Mem → Prop) : Prop :=
  CallF PG fn_word_ReadVar [Value.slice b.a b.len b.cap, Value.int IntKind.i64 at']
    (Kd.tup [Cmp.leaf (Leaf.int IntKind.u64), Cmp.leaf (Leaf.int IntKind.i64), Cmp.leaf (Leaf.int IntKind.i64)]) h fun (n1 n2 n3 : Int) (h4 : Mem) =>
    Br (n3 != 0) (Q (Sl.mk none 0 0) 0 n3 h4)
      (Br (decide (n1 > IntKind.u64.wrap (if 0 > most then 0 else most))) (Q (Sl.mk none 0 0) 0 4 h4)
        (Br (decide (n1 > IntKind.u64.wrap (IntKind.i64.wrap ((↑b.len : Int) - n2)))) (Q (Sl.mk none 0 0) 0 10 h4)
          (Cut 1 b.a b.len b.cap (some n2) (some (IntKind.i64.wrap (n2 + IntKind.i64.wrap n1))) none fun (s5 : Sl) =>
            CallF PG fn_slices_Clone_byte_byte_ [Value.slice s5.a s5.len s5.cap] (Kd.one (Cmp.leaf Leaf.sl)) h4 fun (s6 : Sl) (h7 : Mem) =>
              Q (Sl.mk s6.a s6.len s6.cap) (IntKind.i64.wrap (n2 + IntKind.i64.wrap n1)) 0 h7)))
theorem eq_word_ReadText (b : Sl) (at' : Int) (most : Int) (h : Mem) (Q : Sl → Int → Int → Mem → Prop) : wp_word_ReadText b at' most h Q = evFn PG fn_word_ReadText tab_word_ReadText [.slice b.a b.len b.cap, .int .i64 at', .int .i64 most] (.tup [(.leaf .sl), (.leaf (.int .i64)), (.leaf (.int .i64))]) h Q := by kernel_rfl
theorem ok_word_ReadText : okF PG fn_word_ReadText tab_word_ReadText = true := by kernel_rfl
theorem call_word_ReadText {b : Sl} {at' : Int} {most : Int} {h : Mem} {Q : Sl → Int → Int → Mem → Prop} (w : wp_word_ReadText b at' most h Q) : CallF PG fn_word_ReadText [.slice b.a b.len b.cap, .int .i64 at', .int .i64 most] (.tup [(.leaf .sl), (.leaf (.int .i64)), (.leaf (.int .i64))]) h Q := callF_of PM ok_word_ReadText (eq_word_ReadText b at' most h Q ▸ w)

/- 162: dunnage/word.ReadVar$1 -/
def tab_word_ReadVar_1 : Tab := ⟨[], [], []⟩
def wp_word_ReadVar_1 (c : Int) (a1 : Option Addr) (a2 : Option Addr) (a3 : Option Addr) (h : Mem) (Q : Bool → Mem → Prop) : Prop :=
  Deref a1 fun (p1 : Addr) =>
    Ld PG ty_int p1 (Kd.one (Cmp.leaf (Leaf.int IntKind.i64))) h fun (n2 : Int) =>
      Br (n2 == 9)
        (Br (decide (c > 1)) (Deref a2 fun (p3 : Addr) => St PG ty_bool p3 (Value.bool false) h fun (h4 : Mem) => Q false h4)
          (Deref a1 fun (p5 : Addr) =>
            Ld PG ty_int p5 (Kd.one (Cmp.leaf (Leaf.int IntKind.i64))) h fun (n6 : Int) =>
              Br (decide (n6 > 0))
                (Br (c == 0) (Deref a2 fun (p7 : Addr) => St PG ty_bool p7 (Value.bool false) h fun (h8 : Mem) => Q false h8)
                  (Deref a3 fun (p9 : Addr) =>
                    Ld PG ty_uint64 p9 (Kd.one (Cmp.leaf (Leaf.int IntKind.u64))) h fun (n10 : Int) =>
                      Deref a1 fun (p11 : Addr) =>
                        Ld PG ty_int p11 (Kd.one (Cmp.leaf (Leaf.int IntKind.i64))) h fun (n12 : Int) =>
                          Chk (decide (0 ≤ IntKind.i64.wrap (7 * n12)))
                            (Deref a3 fun (p13 : Addr) =>
                              St PG ty_uint64 p13
                                (Value.int IntKind.u64
                                  (bitsOf BinOp.or IntKind.u64 n10
                                    (IntKind.u64.wrap (IntKind.u64.wrap (bitsOf BinOp.and IntKind.u8 c 127) * 2 ^ shN IntKind.u64 (IntKind.i64.wrap (7 * n12))))))
                                h fun (h14 : Mem) =>
                                Deref a1 fun (p15 : Addr) =>
                                  Ld PG ty_int p15 (Kd.one (Cmp.leaf (Leaf.int IntKind.i64))) h14 fun (n16 : Int) =>
                                    Deref a1 fun (p17 : Addr) =>
                                      St PG ty_int p17 (Value.int IntKind.i64 (IntKind.i64.wrap (n16 + 1))) h14 fun (h18 : Mem) => Q (decide (c ≥ 128)) h18)))
                (Deref a3 fun (p19 : Addr) =>
                  Ld PG ty_uint64 p19 (Kd.one (Cmp.leaf (Leaf.int IntKind.u64))) h fun (n20 : Int) =>
                    Deref a1 fun (p21 : Addr) =>
                      Ld PG ty_int p21 (Kd.one (Cmp.leaf (Leaf.int IntKind.i64))) h fun (n22 : Int) =>
                        Chk (decide (0 ≤ IntKind.i64.wrap (7 * n22)))
                          (Deref a3 fun (p23 : Addr) =>
                            St PG ty_uint64 p23
                              (Value.int IntKind.u64
                                (bitsOf BinOp.or IntKind.u64 n20
                                  (IntKind.u64.wrap (IntKind.u64.wrap (bitsOf BinOp.and IntKind.u8 c 127) * 2 ^ shN IntKind.u64 (IntKind.i64.wrap (7 * n22))))))
                              h fun (h24 : Mem) =>
                              Deref a1 fun (p25 : Addr) =>
                                Ld PG ty_int p25 (Kd.one (Cmp.leaf (Leaf.int IntKind.i64))) h24 fun (n26 : Int) =>
                                  Deref a1 fun (p27 : Addr) =>
                                    St PG ty_int p27 (Value.int IntKind.i64 (IntKind.i64.wrap (n26 + 1))) h24 fun (h28 : Mem) => Q (decide (c ≥ 128)) h28))))
        (Deref a1 fun (p29 : Addr) =>
          Ld PG ty_int p29 (Kd.one (Cmp.leaf (Leaf.int IntKind.i64))) h fun (n30 : Int) =>
            Br (decide (n30 > 0))
              (Br (c == 0) (Deref a2 fun (p31 : Addr) => St PG ty_bool p31 (Value.bool false) h fun (h32 : Mem) => Q false h32)
                (Deref a3 fun (p33 : Addr) =>
                  Ld PG ty_uint64 p33 (Kd.one (Cmp.leaf (Leaf.int IntKind.u64))) h fun (n34 : Int) =>
                    Deref a1 fun (p35 : Addr) =>
                      Ld PG ty_int p35 (Kd.one (Cmp.leaf (Leaf.int IntKind.i64))) h fun (n36 : Int) =>
                        Chk (decide (0 ≤ IntKind.i64.wrap (7 * n36)))
                          (Deref a3 fun (p37 : Addr) =>
                            St PG ty_uint64 p37
                              (Value.int IntKind.u64
                                (bitsOf BinOp.or IntKind.u64 n34
                                  (IntKind.u64.wrap (IntKind.u64.wrap (bitsOf BinOp.and IntKind.u8 c 127) * 2 ^ shN IntKind.u64 (IntKind.i64.wrap (7 * n36))))))
                              h fun (h38 : Mem) =>
                              Deref a1 fun (p39 : Addr) =>
                                Ld PG ty_int p39 (Kd.one (Cmp.leaf (Leaf.int IntKind.i64))) h38 fun (n40 : Int) =>
                                  Deref a1 fun (p41 : Addr) =>
                                    St PG ty_int p41 (Value.int IntKind.i64 (IntKind.i64.wrap (n40 + 1))) h38 fun (h42 : Mem) => Q (decide (c ≥ 128)) h42)))
              (Deref a3 fun (p43 : Addr) =>
                Ld PG ty_uint64 p43 (Kd.one (Cmp.leaf (Leaf.int IntKind.u64))) h fun (n44 : Int) =>
                  Deref a1 fun (p45 : Addr) =>
                    Ld PG ty_int p45 (Kd.one (Cmp.leaf (Leaf.int IntKind.i64))) h fun (n46 : Int) =>
                      Chk (decide (0 ≤ IntKind.i64.wrap (7 * n46)))
                        (Deref a3 fun (p47 : Addr) =>
                          St PG ty_uint64 p47
                            (Value.int IntKind.u64
                              (bitsOf BinOp.or IntKind.u64 n44
                                (IntKind.u64.wrap (IntKind.u64.wrap (bitsOf BinOp.and IntKind.u8 c 127) * 2 ^ shN IntKind.u64 (IntKind.i64.wrap (7 * n46))))))
                            h fun (h48 : Mem) =>
                            Deref a1 fun (p49 : Addr) =>
                              Ld PG ty_int p49 (Kd.one (Cmp.leaf (Leaf.int IntKind.i64))) h48 fun (n50 : Int) =>
                                Deref a1 fun (p51 : Addr) => St PG ty_int p51 (Value.int IntKind.i64 (IntKind.i64.wrap (n50 + 1))) h48 fun (h52 : Mem) => Q (decide (c ≥ 128)) h52)))
theorem eq_word_ReadVar_1 (c : Int) (a1 : Option Addr) (a2 : Option Addr) (a3 : Option Addr) (h : Mem) (Q : Bool → Mem → Prop) : wp_word_ReadVar_1 c a1 a2 a3 h Q = evFn PG fn_word_ReadVar_1 tab_word_ReadVar_1 [.int .u8 c, .pointer a1, .pointer a2, .pointer a3] (.one (.leaf .bool)) h Q := by kernel_rfl
theorem ok_word_ReadVar_1 : okF PG fn_word_ReadVar_1 tab_word_ReadVar_1 = true := by kernel_rfl
theorem call_word_ReadVar_1 {c : Int} {a1 : Option Addr} {a2 : Option Addr} {a3 : Option Addr} {h : Mem} {Q : Bool → Mem → Prop} (w : wp_word_ReadVar_1 c a1 a2 a3 h Q) : CallF PG fn_word_ReadVar_1 [.int .u8 c, .pointer a1, .pointer a2, .pointer a3] (.one (.leaf .bool)) h Q := callF_of PM ok_word_ReadVar_1 (eq_word_ReadVar_1 c a1 a2 a3 h Q ▸ w)

/- 163: (dunnage/word.walk).over; loop 1: [at] -/
def tab_word_walk_over : Tab := ⟨[(1, ⟨[(2, .leaf (.int .i64))], [6, 7, 8, 9, 10, 11, 12, 13, 14, 15, 16, 17, 18, 19, 20, 21, 22, 23]⟩)], [], []⟩
def wp_word_walk_over (w_0 : Value) (b : Sl) (at' : Int) (h : Mem) (Q : Int → Bool → Mem → Prop) : Prop :=
  New (Obj.cells #[w_0] ty_word_walk) h fun (k1 : Nat) (h2 : Mem) =>
    ∃ (I3 : Int → Mem → Prop),
      ∃ (I4 : Int → Mem → Nat),
        I3 at' h2 ∧
          ∀ (j5 : Fr) (n6 : Int) (h7 : Mem),
            I3 n6 h7 →
              Br (decide (n6 < (↑b.len : Int)))
                (Ld PG ty_func_uint8_bool (Addr.mk k1 0 none) (Kd.one (Cmp.leaf Leaf.raw)) h7 fun (v8 : Value) =>
                  Idx b.a b.len (IntKind.i64.wrap (IntKind.i64.wrap (n6 + 1) - 1)) fun (p9 : Addr) =>
                    Ld PG ty_uint8 (p9.add ((IntKind.i64.wrap (IntKind.i64.wrap (n6 + 1) - 1)).toNat * 1)) (Kd.one (Cmp.leaf (Leaf.int IntKind.u8))) h7 fun (n10 : Int) =>
                      CallV PG v8 [Value.int IntKind.u8 n10] (Kd.one (Cmp.leaf Leaf.bool)) h7 fun (b11 : Bool) (h12 : Mem) =>
                        Br (!b11) (Q (IntKind.i64.wrap (n6 + 1)) false h12) (I3 (IntKind.i64.wrap (n6 + 1)) h12 ∧ I4 (IntKind.i64.wrap (n6 + 1)) h12 < I4 n6 h7))
                (Q n6 true h7)
theorem eq_word_walk_over (w_0 : Value) (b : Sl) (at' : Int) (h : Mem) (Q : Int → Bool → Mem → Prop) : wp_word_walk_over w_0 b at' h Q = evFn PG fn_word_walk_over tab_word_walk_over [.agg #[w_0], .slice b.a b.len b.cap, .int .i64 at'] (.tup [(.leaf (.int .i64)), (.leaf .bool)]) h Q := by kernel_rfl
theorem ok_word_walk_over : okF PG fn_word_walk_over tab_word_walk_over = true := by kernel_rfl
theorem call_word_walk_over {w_0 : Value} {b : Sl} {at' : Int} {h : Mem} {Q : Int → Bool → Mem → Prop} (w : wp_word_walk_over w_0 b at' h Q) : CallF PG fn_word_walk_over [.agg #[w_0], .slice b.a b.len b.cap, .int .i64 at'] (.tup [(.leaf (.int .i64)), (.leaf .bool)]) h Q := callF_of PM ok_word_walk_over (eq_word_walk_over w_0 b at' h Q ▸ w)

end Go.Dn.W
