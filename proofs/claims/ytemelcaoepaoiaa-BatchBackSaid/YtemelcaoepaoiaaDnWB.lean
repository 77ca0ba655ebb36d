/- What each function asks for: typed text, and the theorem that the code does it. -/
import Derived.Test.YtemelcaoepaoiaaDnNames
set_option maxRecDepth 100000
set_option linter.unusedVariables false
namespace Go.Dn.W
open Go Go.Dn Go.Proofs

/- 40: dunnage/dunnagehelp.Own[dunnage/api.Change]; loop 5: [i] -/
def tab_dunnagehelp_Own_api_Change_ : Tab := ⟨[(5, ⟨[(7, .leaf (.int .i64))], [22, 23, 24, 25, 26, 27, 28, 29, 30, 31]⟩)], [], []⟩
def wp_dunnagehelp_Own_api_Change_ (l : Sl) (fill_0 : ByteArray) (fill_1 : Int) (fill_2 : Int) (fill_3 : Int) (fill_4 : Bool) (h : Mem) (Q : Sl → Mem → Prop) : Prop :=
  New (Obj.cells #[Value.string fill_0, Value.int IntKind.u64 fill_1, Value.int IntKind.i64 fill_2, Value.int IntKind.i64 fill_3, Value.bool fill_4] ty_api_Change) h
    fun (k1 : Nat) (h2 : Mem) =>
    PrimT PG (Instr.makeSlice ty_sl_api_Change (Value.int IntKind.i64 0) (Value.int IntKind.i64 (IntKind.i64.wrap ((↑l.len : Int) + 3)))) (Kd.one (Cmp.leaf Leaf.sl)) h2
      fun (s3 : Sl) (h4 : Mem) =>
      PrimT PG (Builtin.append_ #[ty_sl_api_Change, ty_sl_api_Change] ty_sl_api_Change #[Value.slice s3.a s3.len s3.cap, Value.slice l.a l.len l.cap]) (Kd.one (Cmp.leaf Leaf.sl)) h4 fun (s5 : Sl) (h6 : Mem) =>
        Cut 5 s5.a s5.len s5.cap none (some (IntKind.i64.wrap ((↑l.len : Int) + 3))) none fun (s7 : Sl) =>
          ∃ (I8 : Int → Mem → Prop),
            ∃ (I9 : Int → Mem → Nat),
              I8 (↑l.len : Int) h6 ∧
                ∀ (j10 : Fr) (n11 : Int) (h12 : Mem),
                  I8 n11 h12 →
                    Br (decide (n11 < (↑s7.len : Int)))
                      (Ld PG ty_api_Change (Addr.mk k1 0 none) (Kd.one (Cmp.agg [Leaf.str, Leaf.int IntKind.u64, Leaf.int IntKind.i64, Leaf.int IntKind.i64, Leaf.bool])) h12
                        fun (t13 : ByteArray) (n14 n15 n16 : Int) (b17 : Bool) =>
                        Idx s7.a s7.len n11 fun (p18 : Addr) =>
                          St PG ty_api_Change (p18.add (n11.toNat * 5))
                            (Value.agg #[Value.string t13, Value.int IntKind.u64 n14, Value.int IntKind.i64 n15, Value.int IntKind.i64 n16, Value.bool b17]) h12 fun (h19 : Mem) =>
                            I8 (IntKind.i64.wrap (n11 + 1)) h19 ∧ I9 (IntKind.i64.wrap (n11 + 1)) h19 < I9 n11 h12)
                      (Q (Sl.mk s5.a s5.len s5.cap) h12)
theorem eq_dunnagehelp_Own_api_Change_ (l : Sl) (fill_0 : ByteArray) (fill_1 : Int) (fill_2 : Int) (fill_3 : Int) (fill_4 : Bool) (h : Mem) (Q : Sl → Mem → Prop) : wp_dunnagehelp_Own_api_Change_ l fill_0 fill_1 fill_2 fill_3 fill_4 h Q = evFn PG fn_dunnagehelp_Own_api_Change_ tab_dunnagehelp_Own_api_Change_ [.slice l.a l.len l.cap, .agg #[.string fill_0, .int .u64 fill_1, .int .i64 fill_2, .int .i64 fill_3, .bool fill_4]] (.one (.leaf .sl)) h Q := by kernel_rfl
theorem ok_dunnagehelp_Own_api_Change_ : okF PG fn_dunnagehelp_Own_api_Change_ tab_dunnagehelp_Own_api_Change_ = true := by kernel_rfl
theorem call_dunnagehelp_Own_api_Change_ {l : Sl} {fill_0 : ByteArray} {fill_1 : Int} {fill_2 : Int} {fill_3 : Int} {fill_4 : Bool} {h : Mem} {Q : Sl → Mem → Prop} (w : wp_dunnagehelp_Own_api_Change_ l fill_0 fill_1 fill_2 fill_3 fill_4 h Q) : CallF PG fn_dunnagehelp_Own_api_Change_ [.slice l.a l.len l.cap, .agg #[.string fill_0, .int .u64 fill_1, .int .i64 fill_2, .int .i64 fill_3, .bool fill_4]] (.one (.leaf .sl)) h Q := callF_of PM ok_dunnagehelp_Own_api_Change_ (eq_dunnagehelp_Own_api_Change_ l fill_0 fill_1 fill_2 fill_3 fill_4 h Q ▸ w)

/- 41: dunnage/batch.Write -/
def tab_batch_Write : Tab := ⟨[], [], []⟩
def wp_batch_Write (r_0 : Int) (r_1 : Int) (r_2 : Sl) (r_3 : Int) (r_4 : Int) (r_5 : Int) (r_6 : Int) (h : Mem) (Q : Sl → Int → Mem → Prop) : Prop :=
  New
    (Obj.cells
      #[Value.int IntKind.i64 r_0, Value.int IntKind.u64 r_1, Value.slice r_2.a r_2.len r_2.cap, Value.int IntKind.u64 r_3, Value.int IntKind.i64 r_4, Value.int IntKind.i64 r_5,
        Value.int IntKind.i64 r_6]
      38)
    h fun (k1 : Nat) (h2 : Mem) =>
    Ld PG ty_api_Record (Addr.mk k1 0 none)
      (Kd.one (Cmp.agg [Leaf.int IntKind.i64, Leaf.int IntKind.u64, Leaf.sl, Leaf.int IntKind.u64, Leaf.int IntKind.i64, Leaf.int IntKind.i64, Leaf.int IntKind.i64])) h2
      fun (n3 n4 : Int) (s5 : Sl) (n6 n7 n8 n9 : Int) =>
      CallF PG fn_batch_May 
        [Value.agg
            #[Value.int IntKind.i64 n3, Value.int IntKind.u64 n4, Value.slice s5.a s5.len s5.cap, Value.int IntKind.u64 n6, Value.int IntKind.i64 n7, Value.int IntKind.i64 n8,
              Value.int IntKind.i64 n9]]
        (Kd.one (Cmp.leaf Leaf.bool)) h2 fun (b10 : Bool) (h11 : Mem) =>
        Br (!b10) (Q (Sl.mk none 0 0) 11 h11)
          (Ld PG ty_int (Addr.mk k1 0 none) (Kd.one (Cmp.leaf (Leaf.int IntKind.i64))) h11 fun (n12 : Int) =>
            New (Obj.cells #[Value.int IntKind.u8 (IntKind.u8.wrap n12)] ty_uint8) h11 fun (k13 : Nat) (h14 : Mem) =>
              New (Obj.cells #[Value.slice (some (Addr.mk k13 0 none)) 1 1, Value.int IntKind.i64 0, Value.int IntKind.i64 0] ty_batch_pen) h14 fun (k15 : Nat) (h16 : Mem) =>
                Ld PG ty_int (Addr.mk k1 0 none) (Kd.one (Cmp.leaf (Leaf.int IntKind.i64))) h16 fun (n17 : Int) =>
                  Ld PG ty_api_Record (Addr.mk k1 0 none)
                    (Kd.one (Cmp.agg [Leaf.int IntKind.i64, Leaf.int IntKind.u64, Leaf.sl, Leaf.int IntKind.u64, Leaf.int IntKind.i64, Leaf.int IntKind.i64, Leaf.int IntKind.i64]))
                    h16 fun (n18 n19 : Int) (s20 : Sl) (n21 n22 n23 n24 : Int) =>
                    CallF PG fn_batch_writers [] (Kd.one (Cmp.agg [Leaf.raw, Leaf.raw, Leaf.raw])) h16 fun (v25 v26 v27 : Value) (h28 : Mem) =>
                      (Ld PG ty_api_Record (Addr.mk k1 0 none)
                          (Kd.one
                            (Cmp.agg [Leaf.int IntKind.i64, Leaf.int IntKind.u64, Leaf.sl, Leaf.int IntKind.u64, Leaf.int IntKind.i64, Leaf.int IntKind.i64, Leaf.int IntKind.i64]))
                          h28 fun (n29 n30 : Int) (s31 : Sl) (n32 n33 n34 n35 : Int) =>
                          Value.agg
                              #[Value.int IntKind.i64 n29, Value.int IntKind.u64 n30, Value.slice s31.a s31.len s31.cap, Value.int IntKind.u64 n32, Value.int IntKind.i64 n33,
                                Value.int IntKind.i64 n34, Value.int IntKind.i64 n35] =
                            Value.agg
                              #[Value.int IntKind.i64 n18, Value.int IntKind.u64 n19, Value.slice s20.a s20.len s20.cap, Value.int IntKind.u64 n21, Value.int IntKind.i64 n22,
                                Value.int IntKind.i64 n23, Value.int IntKind.i64 n24]) ∧
                        (Ld PG ty_int (Addr.mk k1 0 none) (Kd.one (Cmp.leaf (Leaf.int IntKind.i64))) h28 fun (n36 : Int) => Value.int IntKind.i64 n36 = Value.int IntKind.i64 n17) ∧
                          PureT PG (Instr.index ty_3_func_ptr_batch_pen_api_Record (Value.agg #[v25, v26, v27]) (Value.int IntKind.i64 n17)) (Kd.one (Cmp.leaf Leaf.raw)) fun (v37 : Value) =>
                            CallV PG v37
                              [Value.pointer (some (Addr.mk k15 0 none)),
                                Value.agg
                                  #[Value.int IntKind.i64 n18, Value.int IntKind.u64 n19, Value.slice s20.a s20.len s20.cap, Value.int IntKind.u64 n21, Value.int IntKind.i64 n22,
                                    Value.int IntKind.i64 n23, Value.int IntKind.i64 n24]]
                              (Kd.tup []) h28 fun (h38 : Mem) =>
                              Ld PG ty_sl_uint8 (Addr.mk k15 0 none) (Kd.one (Cmp.leaf Leaf.sl)) h38 fun (s39 : Sl) => Q (Sl.mk s39.a s39.len s39.cap) 0 h38)
theorem eq_batch_Write (r_0 : Int) (r_1 : Int) (r_2 : Sl) (r_3 : Int) (r_4 : Int) (r_5 : Int) (r_6 : Int) (h : Mem) (Q : Sl → Int → Mem → Prop) : wp_batch_Write r_0 r_1 r_2 r_3 r_4 r_5 r_6 h Q = evFn PG fn_batch_Write tab_batch_Write [.agg #[.int .i64 r_0, .int .u64 r_1, .slice r_2.a r_2.len r_2.cap, .int .u64 r_3, .int .i64 r_4, .int .i64 r_5, .int .i64 r_6]] (.tup [(.leaf .sl), (.leaf (.int .i64))]) h Q := by kernel_rfl
theorem ok_batch_Write : okF PG fn_batch_Write tab_batch_Write = true := by kernel_rfl
theorem call_batch_Write {r_0 : Int} {r_1 : Int} {r_2 : Sl} {r_3 : Int} {r_4 : Int} {r_5 : Int} {r_6 : Int} {h : Mem} {Q : Sl → Int → Mem → Prop} (w : wp_batch_Write r_0 r_1 r_2 r_3 r_4 r_5 r_6 h Q) : CallF PG fn_batch_Write [.agg #[.int .i64 r_0, .int .u64 r_1, .slice r_2.a r_2.len r_2.cap, .int .u64 r_3, .int .i64 r_4, .int .i64 r_5, .int .i64 r_6]] (.tup [(.leaf .sl), (.leaf (.int .i64))]) h Q := callF_of PM ok_batch_Write (eq_batch_Write r_0 r_1 r_2 r_3 r_4 r_5 r_6 h Q ▸ w)

/- 42: dunnage/dunnageref10.Write; loop 7: [b, i] -/
def tab_dunnageref10_Write : Tab := ⟨[(7, ⟨[(4, .leaf .sl), (5, .leaf (.int .i64))], [6, 42, 43, 44, 45, 46, 47, 48, 49, 50, 51, 52, 53, 54, 55, 56, 57, 58, 59, 60, 61, 62, 63, 64, 65, 66, 67, 68, 69, 70, 71, 72, 73, 74, 75, 76, 77, 78, 79, 80, 81, 82]⟩)], [], []⟩
def wp_dunnageref10_Write (r_0 : Int) (r_1 : Int) (r_2 : Sl) (r_3 : Int) (r_4 : Int) (r_5 : Int) (r_6 : Int) (h : Mem) (Q : Sl → Int → Mem → Prop) : Prop :=
  New
    (Obj.cells
      #[Value.int IntKind.i64 r_0, Value.int IntKind.u64 r_1, Value.slice r_2.a r_2.len r_2.cap, Value.int IntKind.u64 r_3, Value.int IntKind.i64 r_4, Value.int IntKind.i64 r_5,
        Value.int IntKind.i64 r_6]
      38)
    h fun (k1 : Nat) (h2 : Mem) =>
    Ld PG ty_api_Record (Addr.mk k1 0 none)
      (Kd.one (Cmp.agg [Leaf.int IntKind.i64, Leaf.int IntKind.u64, Leaf.sl, Leaf.int IntKind.u64, Leaf.int IntKind.i64, Leaf.int IntKind.i64, Leaf.int IntKind.i64])) h2
      fun (n3 n4 : Int) (s5 : Sl) (n6 n7 n8 n9 : Int) =>
      CallF PG fn_dunnageref10_May 
        [Value.agg
            #[Value.int IntKind.i64 n3, Value.int IntKind.u64 n4, Value.slice s5.a s5.len s5.cap, Value.int IntKind.u64 n6, Value.int IntKind.i64 n7, Value.int IntKind.i64 n8,
              Value.int IntKind.i64 n9]]
        (Kd.one (Cmp.leaf Leaf.bool)) h2 fun (b10 : Bool) (h11 : Mem) =>
        Br (!b10) (Q (Sl.mk none 0 0) 11 h11)
          (Ld PG ty_int (Addr.mk k1 0 none) (Kd.one (Cmp.leaf (Leaf.int IntKind.i64))) h11 fun (n12 : Int) =>
            Br (n12 == 2)
              (New (Obj.cells #[Value.int IntKind.u8 2] ty_uint8) h11 fun (k13 : Nat) (h14 : Mem) =>
                Ld PG ty_uint64 ((Addr.mk k1 0 none).add 3) (Kd.one (Cmp.leaf (Leaf.int IntKind.u64))) h14 fun (n15 : Int) =>
                  Ld PG ty_int (((Addr.mk k1 0 none).add 3).add 1) (Kd.one (Cmp.leaf (Leaf.int IntKind.i64))) h14 fun (n16 : Int) =>
                    Ld PG ty_int (((Addr.mk k1 0 none).add 3).add 2) (Kd.one (Cmp.leaf (Leaf.int IntKind.i64))) h14 fun (n17 : Int) =>
                      Ld PG ty_int (((Addr.mk k1 0 none).add 3).add 3) (Kd.one (Cmp.leaf (Leaf.int IntKind.i64))) h14 fun (n18 : Int) =>
                        New
                          (Obj.cells
                            #[Value.int IntKind.u64 n15, Value.int IntKind.u64 (IntKind.u64.wrap n16), Value.int IntKind.u64 (IntKind.u64.wrap n17),
                              Value.int IntKind.u64 (IntKind.u64.wrap n18)]
                            33)
                          h14 fun (k19 : Nat) (h20 : Mem) =>
                          CallF PG fn_dunnageref10_nums [Value.slice (some (Addr.mk k19 0 none)) 4 4] (Kd.one (Cmp.leaf Leaf.sl)) h20 fun (s21 : Sl) (h22 : Mem) =>
                            PrimT PG (Builtin.append_ #[ty_sl_uint8, ty_sl_uint8] ty_sl_uint8 #[Value.slice (some (Addr.mk k13 0 none)) 1 1, Value.slice s21.a s21.len s21.cap])
                              (Kd.one (Cmp.leaf Leaf.sl)) h22 fun (s23 : Sl) (h24 : Mem) => Q (Sl.mk s23.a s23.len s23.cap) 0 h24)
              (New (Obj.cells #[Value.int IntKind.u8 1] ty_uint8) h11 fun (k25 : Nat) (h26 : Mem) =>
                Ld PG ty_uint64 ((Addr.mk k1 0 none).add 1) (Kd.one (Cmp.leaf (Leaf.int IntKind.u64))) h26 fun (n27 : Int) =>
                  Ld PG ty_sl_api_Change ((Addr.mk k1 0 none).add 2) (Kd.one (Cmp.leaf Leaf.sl)) h26 fun (s28 : Sl) =>
                    New (Obj.cells #[Value.int IntKind.u64 n27, Value.int IntKind.u64 (IntKind.u64.wrap (↑s28.len : Int))] ty_uint64) h26 fun (k29 : Nat) (h30 : Mem) =>
                      CallF PG fn_dunnageref10_nums [Value.slice (some (Addr.mk k29 0 none)) 2 2] (Kd.one (Cmp.leaf Leaf.sl)) h30 fun (s31 : Sl) (h32 : Mem) =>
                        PrimT PG (Builtin.append_ #[ty_sl_uint8, ty_sl_uint8] ty_sl_uint8 #[Value.slice (some (Addr.mk k25 0 none)) 1 1, Value.slice s31.a s31.len s31.cap]) (Kd.one (Cmp.leaf Leaf.sl))
                          h32 fun (s33 : Sl) (h34 : Mem) =>
                          ∃ (I35 : Sl → Int → Mem → Prop),
                            ∃ (I36 : Sl → Int → Mem → Nat),
                              I35 (Sl.mk s33.a s33.len s33.cap) 0 h34 ∧
                                ∀ (j37 : Fr) (s38 : Sl) (n39 : Int) (h40 : Mem),
                                  I35 s38 n39 h40 →
                                    Ld PG ty_sl_api_Change ((Addr.mk k1 0 none).add 2) (Kd.one (Cmp.leaf Leaf.sl)) h40 fun (s41 : Sl) =>
                                      Br (decide (n39 < (↑s41.len : Int)))
                                        (Ld PG ty_sl_api_Change ((Addr.mk k1 0 none).add 2) (Kd.one (Cmp.leaf Leaf.sl)) h40 fun (s42 : Sl) =>
                                          Idx s42.a s42.len n39 fun (p43 : Addr) =>
                                            Ld PG ty_api_Change (p43.add (n39.toNat * 5))
                                              (Kd.one (Cmp.agg [Leaf.str, Leaf.int IntKind.u64, Leaf.int IntKind.i64, Leaf.int IntKind.i64, Leaf.bool])) h40
                                              fun (t44 : ByteArray) (n45 n46 n47 : Int) (b48 : Bool) =>
                                              New
                                                (Obj.cells
                                                  #[Value.string (ByteArray.mk #[]), Value.int IntKind.u64 0, Value.int IntKind.i64 0, Value.int IntKind.i64 0, Value.bool false] 43)
                                                h40 fun (k49 : Nat) (h50 : Mem) =>
                                                St PG ty_api_Change (Addr.mk k49 0 none)
                                                  (Value.agg #[Value.string t44, Value.int IntKind.u64 n45, Value.int IntKind.i64 n46, Value.int IntKind.i64 n47, Value.bool b48]) h50
                                                  fun (h51 : Mem) =>
                                                  Ld PG ty_string (Addr.mk k49 0 none) (Kd.one (Cmp.leaf Leaf.str)) h51 fun (t52 : ByteArray) =>
                                                    PrimT PG (convert ty_string ty_sl_uint8 (Value.string t52)) (Kd.one (Cmp.leaf Leaf.sl)) h51 fun (s53 : Sl) (h54 : Mem) =>
                                                      CallF PG fn_dunnageref01_Text [Value.slice s53.a s53.len s53.cap] (Kd.one (Cmp.leaf Leaf.sl)) h54 fun (s55 : Sl) (h56 : Mem) =>
                                                        PrimT PG (Builtin.append_ #[ty_sl_uint8, ty_sl_uint8] ty_sl_uint8 #[Value.slice s38.a s38.len s38.cap, Value.slice s55.a s55.len s55.cap])
                                                          (Kd.one (Cmp.leaf Leaf.sl)) h56 fun (s57 : Sl) (h58 : Mem) =>
                                                          Ld PG ty_bool ((Addr.mk k49 0 none).add 4) (Kd.one (Cmp.leaf Leaf.bool)) h58 fun (b59 : Bool) =>
                                                            Br b59
                                                              (New (Obj.cells #[Value.int IntKind.u8 1] ty_uint8) h58 fun (k60 : Nat) (h61 : Mem) =>
                                                                PrimT PG
                                                                  (Builtin.append_ #[ty_sl_uint8, ty_sl_uint8] ty_sl_uint8 #[Value.slice s57.a s57.len s57.cap, Value.slice (some (Addr.mk k60 0 none)) 1 1])
                                                                  (Kd.one (Cmp.leaf Leaf.sl)) h61 fun (s62 : Sl) (h63 : Mem) =>
                                                                  I35 (Sl.mk s62.a s62.len s62.cap) (IntKind.i64.wrap (n39 + 1)) h63 ∧
                                                                    I36 (Sl.mk s62.a s62.len s62.cap) (IntKind.i64.wrap (n39 + 1)) h63 < I36 s38 n39 h40)
                                                              (New (Obj.cells #[Value.int IntKind.u8 0] ty_uint8) h58 fun (k64 : Nat) (h65 : Mem) =>
                                                                PrimT PG
                                                                  (Builtin.append_ #[ty_sl_uint8, ty_sl_uint8] ty_sl_uint8 #[Value.slice s57.a s57.len s57.cap, Value.slice (some (Addr.mk k64 0 none)) 1 1])
                                                                  (Kd.one (Cmp.leaf Leaf.sl)) h65 fun (s66 : Sl) (h67 : Mem) =>
                                                                  Ld PG ty_uint64 ((Addr.mk k49 0 none).add 1) (Kd.one (Cmp.leaf (Leaf.int IntKind.u64))) h67 fun (n68 : Int) =>
                                                                    Ld PG ty_int (((Addr.mk k49 0 none).add 1).add 1) (Kd.one (Cmp.leaf (Leaf.int IntKind.i64))) h67
                                                                      fun (n69 : Int) =>
                                                                      Ld PG ty_int (((Addr.mk k49 0 none).add 1).add 2) (Kd.one (Cmp.leaf (Leaf.int IntKind.i64))) h67
                                                                        fun (n70 : Int) =>
                                                                        New
                                                                          (Obj.cells
                                                                            #[Value.int IntKind.u64 n68, Value.int IntKind.u64 (IntKind.u64.wrap n69),
                                                                              Value.int IntKind.u64 (IntKind.u64.wrap n70)]
                                                                            33)
                                                                          h67 fun (k71 : Nat) (h72 : Mem) =>
                                                                          CallF PG fn_dunnageref10_nums [Value.slice (some (Addr.mk k71 0 none)) 3 3] (Kd.one (Cmp.leaf Leaf.sl)) h72
                                                                            fun (s73 : Sl) (h74 : Mem) =>
                                                                            PrimT PG
                                                                              (Builtin.append_ #[ty_sl_uint8, ty_sl_uint8] ty_sl_uint8 #[Value.slice s66.a s66.len s66.cap, Value.slice s73.a s73.len s73.cap])
                                                                              (Kd.one (Cmp.leaf Leaf.sl)) h74 fun (s75 : Sl) (h76 : Mem) =>
                                                                              I35 (Sl.mk s75.a s75.len s75.cap) (IntKind.i64.wrap (n39 + 1)) h76 ∧
                                                                                I36 (Sl.mk s75.a s75.len s75.cap) (IntKind.i64.wrap (n39 + 1)) h76 < I36 s38 n39 h40))
                                        (Q (Sl.mk s38.a s38.len s38.cap) 0 h40)))
theorem eq_dunnageref10_Write (r_0 : Int) (r_1 : Int) (r_2 : Sl) (r_3 : Int) (r_4 : Int) (r_5 : Int) (r_6 : Int) (h : Mem) (Q : Sl → Int → Mem → Prop) : wp_dunnageref10_Write r_0 r_1 r_2 r_3 r_4 r_5 r_6 h Q = evFn PG fn_dunnageref10_Write tab_dunnageref10_Write [.agg #[.int .i64 r_0, .int .u64 r_1, .slice r_2.a r_2.len r_2.cap, .int .u64 r_3, .int .i64 r_4, .int .i64 r_5, .int .i64 r_6]] (.tup [(.leaf .sl), (.leaf (.int .i64))]) h Q := by kernel_rfl
theorem ok_dunnageref10_Write : okF PG fn_dunnageref10_Write tab_dunnageref10_Write = true := by kernel_rfl
theorem call_dunnageref10_Write {r_0 : Int} {r_1 : Int} {r_2 : Sl} {r_3 : Int} {r_4 : Int} {r_5 : Int} {r_6 : Int} {h : Mem} {Q : Sl → Int → Mem → Prop} (w : wp_dunnageref10_Write r_0 r_1 r_2 r_3 r_4 r_5 r_6 h Q) : CallF PG fn_dunnageref10_Write [.agg #[.int .i64 r_0, .int .u64 r_1, .slice r_2.a r_2.len r_2.cap, .int .u64 r_3, .int .i64 r_4, .int .i64 r_5, .int .i64 r_6]] (.tup [(.leaf .sl), (.leaf (.int .i64))]) h Q := callF_of PM ok_dunnageref10_Write (eq_dunnageref10_Write r_0 r_1 r_2 r_3 r_4 r_5 r_6 h Q ▸ w)

/- 43: dunnage/dunnagelaw10.awake -/
def tab_dunnagelaw10_awake : Tab := ⟨[], [], []⟩
def wp_dunnagelaw10_awake  (h : Mem) (Q : Bool → Mem → Prop) : Prop :=
  CallF PG fn_batch_Write 
    [Value.agg
        #[Value.int IntKind.i64 2, Value.int IntKind.u64 0, Value.slice none 0 0, Value.int IntKind.u64 5, Value.int IntKind.i64 9, Value.int IntKind.i64 2, Value.int IntKind.i64 3]]
    (Kd.tup [Cmp.leaf Leaf.sl, Cmp.leaf (Leaf.int IntKind.i64)]) h fun (s1 : Sl) (n2 : Int) (h3 : Mem) =>
    Br (n2 == 0)
      (Br ((↑s1.len : Int) == 5) (CallF PG fn_batch_Check [Value.slice none 0 0] (Kd.one (Cmp.leaf (Leaf.int IntKind.i64))) h3 fun (n4 : Int) (h5 : Mem) => Q (n4 == 1) h5) (Q false h3))
      (Q false h3)
theorem eq_dunnagelaw10_awake  (h : Mem) (Q : Bool → Mem → Prop) : wp_dunnagelaw10_awake  h Q = evFn PG fn_dunnagelaw10_awake tab_dunnagelaw10_awake [] (.one (.leaf .bool)) h Q := by kernel_rfl
theorem ok_dunnagelaw10_awake : okF PG fn_dunnagelaw10_awake tab_dunnagelaw10_awake = true := by kernel_rfl
theorem call_dunnagelaw10_awake {h : Mem} {Q : Bool → Mem → Prop} (w : wp_dunnagelaw10_awake  h Q) : CallF PG fn_dunnagelaw10_awake [] (.one (.leaf .bool)) h Q := callF_of PM ok_dunnagelaw10_awake (eq_dunnagelaw10_awake  h Q ▸ w)

/- 44: dunnage/batch.May -/
def tab_batch_May : Tab := ⟨[], [], []⟩
def wp_batch_May (r_0 : Int) (r_1 : Int) (r_2 : Sl) (r_3 : Int) (r_4 : Int) (r_5 : Int) (r_6 : Int) (h : Mem) (Q : Bool → Mem → Prop) : Prop :=
  New
    (Obj.cells
      #[Value.int IntKind.i64 r_0, Value.int IntKind.u64 r_1, Value.slice r_2.a r_2.len r_2.cap, Value.int IntKind.u64 r_3, Value.int IntKind.i64 r_4, Value.int IntKind.i64 r_5,
        Value.int IntKind.i64 r_6]
      38)
    h fun (k1 : Nat) (h2 : Mem) =>
    Ld PG ty_int (Addr.mk k1 0 none) (Kd.one (Cmp.leaf (Leaf.int IntKind.i64))) h2 fun (n3 : Int) =>
      Br (n3 == 1)
        (Ld PG ty_uint64 ((Addr.mk k1 0 none).add 1) (Kd.one (Cmp.leaf (Leaf.int IntKind.u64))) h2 fun (n4 : Int) =>
          Br (decide (n4 ≥ 1))
            (Ld PG ty_sl_api_Change ((Addr.mk k1 0 none).add 2) (Kd.one (Cmp.leaf Leaf.sl)) h2 fun (s5 : Sl) =>
              CallF PG fn_batch_changes [Value.slice s5.a s5.len s5.cap] (Kd.one (Cmp.leaf Leaf.bool)) h2 fun (b6 : Bool) (h7 : Mem) =>
                Br b6
                  (Ld PG ty_api_Move ((Addr.mk k1 0 none).add 3) (Kd.one (Cmp.agg [Leaf.int IntKind.u64, Leaf.int IntKind.i64, Leaf.int IntKind.i64, Leaf.int IntKind.i64])) h7
                    fun (n8 n9 n10 n11 : Int) =>
                    EqP PG BinOp.eql ty_api_Move (Value.agg #[Value.int IntKind.u64 n8, Value.int IntKind.i64 n9, Value.int IntKind.i64 n10, Value.int IntKind.i64 n11])
                      (Value.agg #[Value.int IntKind.u64 0, Value.int IntKind.i64 0, Value.int IntKind.i64 0, Value.int IntKind.i64 0]) fun (b12 : Bool) => Q b12 h7)
                  (Q false h7))
            (Q false h2))
        (Br (n3 == 2)
          (Ld PG ty_uint64 ((Addr.mk k1 0 none).add 1) (Kd.one (Cmp.leaf (Leaf.int IntKind.u64))) h2 fun (n13 : Int) =>
            Br (n13 == 0)
              (Ld PG ty_sl_api_Change ((Addr.mk k1 0 none).add 2) (Kd.one (Cmp.leaf Leaf.sl)) h2 fun (s14 : Sl) =>
                Br ((↑s14.len : Int) == 0)
                  (Ld PG ty_api_Move ((Addr.mk k1 0 none).add 3) (Kd.one (Cmp.agg [Leaf.int IntKind.u64, Leaf.int IntKind.i64, Leaf.int IntKind.i64, Leaf.int IntKind.i64])) h2
                    fun (n15 n16 n17 n18 : Int) =>
                    CallF PG fn_batch_moves [Value.agg #[Value.int IntKind.u64 n15, Value.int IntKind.i64 n16, Value.int IntKind.i64 n17, Value.int IntKind.i64 n18]]
                      (Kd.one (Cmp.leaf Leaf.bool)) h2 fun (b19 : Bool) (h20 : Mem) => Q b19 h20)
                  (Q false h2))
              (Q false h2))
          (Q false h2))
theorem eq_batch_May (r_0 : Int) (r_1 : Int) (r_2 : Sl) (r_3 : Int) (r_4 : Int) (r_5 : Int) (r_6 : Int) (h : Mem) (Q : Bool → Mem → Prop) : wp_batch_May r_0 r_1 r_2 r_3 r_4 r_5 r_6 h Q = evFn PG fn_batch_May tab_batch_May [.agg #[.int .i64 r_0, .int .u64 r_1, .slice r_2.a r_2.len r_2.cap, .int .u64 r_3, .int .i64 r_4, .int .i64 r_5, .int .i64 r_6]] (.one (.leaf .bool)) h Q := by kernel_rfl
theorem ok_batch_May : okF PG fn_batch_May tab_batch_May = true := by kernel_rfl
theorem call_batch_May {r_0 : Int} {r_1 : Int} {r_2 : Sl} {r_3 : Int} {r_4 : Int} {r_5 : Int} {r_6 : Int} {h : Mem} {Q : Bool → Mem → Prop} (w : wp_batch_May r_0 r_1 r_2 r_3 r_4 r_5 r_6 h Q) : CallF PG fn_batch_May [.agg #[.int .i64 r_0, .int .u64 r_1, .slice r_2.a r_2.len r_2.cap, .int .u64 r_3, .int .i64 r_4, .int .i64 r_5, .int .i64 r_6]] (.one (.leaf .bool)) h Q := callF_of PM ok_batch_May (eq_batch_May r_0 r_1 r_2 r_3 r_4 r_5 r_6 h Q ▸ w)

/- 45: dunnage/dunnageref10.May; loop 6: [i] -/
def tab_dunnageref10_May : Tab := ⟨[(6, ⟨[(3, .leaf (.int .i64))], [2, 4, 30, 31, 32, 33, 34, 35, 36, 37, 38, 39, 40, 41, 42, 43, 44, 45, 46, 47, 48, 49, 50, 51, 52, 53, 54, 55, 56, 57, 58, 59, 60, 61, 62, 63, 64, 65, 66, 67, 68, 69, 70, 71, 72, 73, 74, 75, 76, 77, 78, 79, 80, 81, 82, 83]⟩)], [], [(9, (chainT [(0, false), (1, false), (2, true), (3, false), (4, false)] (.join ⟨[(55, .leaf .bool)], [47, 48, 49, 50, 51, 52, 53, 54]⟩ (chainT [(5, false), (6, false), (7, false), (8, false), (9, false), (10, false), (11, false), (12, false), (13, false)] .nil) (chainT [(14, false), (15, false), (16, false), (17, false), (18, false), (19, false), (20, false), (21, true), (22, false), (23, false), (24, false), (25, false), (26, false), (27, false), (28, false), (29, false), (30, false), (31, false), (32, false), (33, false), (34, false), (35, false), (36, false), (37, false), (38, true), (39, false), (40, false), (41, false)] .nil)))), (3, (chainT [(0, false), (1, false), (2, false), (3, false)] (.join ⟨[(17, .leaf .bool)], [13, 14, 15, 16]⟩ (chainT [(4, false), (5, false), (6, false), (7, false), (8, false)] .nil) (chainT [(9, false)] (.join ⟨[(23, .leaf .bool)], [19, 20, 21, 22]⟩ (chainT [(10, false), (11, false), (12, false), (13, false), (14, false)] .nil) (chainT [(15, false)] (.join ⟨[(29, .leaf .bool)], [25, 26, 27, 28]⟩ (chainT [(16, false), (17, false), (18, false), (19, false), (20, false)] .nil) .nil)))))))]⟩
def wp_dunnageref10_May (r_0 : Int) (r_1 : Int) (r_2 : Sl) (r_3 : Int) (r_4 : Int) (r_5 : Int) (r_6 : Int) (h : Mem) (Q : Bool → Mem → Prop) : Prop :=
  New
    (Obj.cells
      #[Value.int IntKind.i64 r_0, Value.int IntKind.u64 r_1, Value.slice r_2.a r_2.len r_2.cap, Value.int IntKind.u64 r_3, Value.int IntKind.i64 r_4, Value.int IntKind.i64 r_5,
        Value.int IntKind.i64 r_6]
      38)
    h fun (k1 : Nat) (h2 : Mem) =>
    Ld PG ty_int (Addr.mk k1 0 none) (Kd.one (Cmp.leaf (Leaf.int IntKind.i64))) h2 fun (n3 : Int) =>
      Br (n3 == 1)
        (Ld PG ty_uint64 ((Addr.mk k1 0 none).add 1) (Kd.one (Cmp.leaf (Leaf.int IntKind.u64))) h2 fun (n4 : Int) =>
          ∃ (I5 : Bool → Mem → Prop),
            (∀ (j6 : Fr) (b7 : Bool) (h8 : Mem),
                I5 b7 h8 →
                  ∃ (I9 : Bool → Mem → Prop),
                    (∀ (j10 : Fr) (b11 : Bool) (h12 : Mem),
                        I9 b11 h12 →
                          ∃ (I13 : Bool → Mem → Prop),
                            (∀ (j14 : Fr) (b15 : Bool) (h16 : Mem),
                                I13 b15 h16 →
                                  Br b15 (Q false h16)
                                    (∃ (I17 : Int → Mem → Prop),
                                      ∃ (I18 : Int → Mem → Nat),
                                        I17 0 h16 ∧
                                          ∀ (j19 : Fr) (n20 : Int) (h21 : Mem),
                                            I17 n20 h21 →
                                              Ld PG ty_sl_api_Change ((Addr.mk k1 0 none).add 2) (Kd.one (Cmp.leaf Leaf.sl)) h21 fun (s22 : Sl) =>
                                                Br (decide (n20 < (↑s22.len : Int)))
                                                  (Ld PG ty_sl_api_Change ((Addr.mk k1 0 none).add 2) (Kd.one (Cmp.leaf Leaf.sl)) h21 fun (s23 : Sl) =>
                                                    Idx s23.a s23.len n20 fun (p24 : Addr) =>
                                                      Ld PG ty_api_Change (p24.add (n20.toNat * 5))
                                                        (Kd.one (Cmp.agg [Leaf.str, Leaf.int IntKind.u64, Leaf.int IntKind.i64, Leaf.int IntKind.i64, Leaf.bool])) h21
                                                        fun (t25 : ByteArray) (n26 n27 n28 : Int) (b29 : Bool) =>
                                                        New
                                                          (Obj.cells
                                                            #[Value.string (ByteArray.mk #[]), Value.int IntKind.u64 0, Value.int IntKind.i64 0, Value.int IntKind.i64 0,
                                                              Value.bool false]
                                                            43)
                                                          h21 fun (k30 : Nat) (h31 : Mem) =>
                                                          St PG ty_api_Change (Addr.mk k30 0 none)
                                                            (Value.agg
                                                              #[Value.string t25, Value.int IntKind.u64 n26, Value.int IntKind.i64 n27, Value.int IntKind.i64 n28, Value.bool b29])
                                                            h31 fun (h32 : Mem) =>
                                                            Ld PG ty_string (Addr.mk k30 0 none) (Kd.one (Cmp.leaf Leaf.str)) h32 fun (t33 : ByteArray) =>
                                                              CallF PG fn_dunnageref09_May [Value.string t33] (Kd.one (Cmp.leaf Leaf.bool)) h32 fun (b34 : Bool) (h35 : Mem) =>
                                                                ∃ (I36 : Bool → Mem → Prop),
                                                                  (∀ (j37 : Fr) (b38 : Bool) (h39 : Mem),
                                                                      I36 b38 h39 →
                                                                        Br b38 (Q false h39)
                                                                          (Ld PG ty_bool ((Addr.mk k30 0 none).add 4) (Kd.one (Cmp.leaf Leaf.bool)) h39 fun (b40 : Bool) =>
                                                                            Br (!b40)
                                                                              (Ld PG ty_api_Ref ((Addr.mk k30 0 none).add 1)
                                                                                (Kd.one (Cmp.agg [Leaf.int IntKind.u64, Leaf.int IntKind.i64, Leaf.int IntKind.i64])) h39
                                                                                fun (n41 n42 n43 : Int) =>
                                                                                CallF PG fn_dunnageref10_MayRef 
                                                                                  [Value.agg #[Value.int IntKind.u64 n41, Value.int IntKind.i64 n42, Value.int IntKind.i64 n43]]
                                                                                  (Kd.one (Cmp.leaf Leaf.bool)) h39 fun (b44 : Bool) (h45 : Mem) =>
                                                                                  Br (!b44) (Q false h45)
                                                                                    (Br (decide (n20 > 0))
                                                                                      (Ld PG ty_sl_api_Change ((Addr.mk k1 0 none).add 2) (Kd.one (Cmp.leaf Leaf.sl)) h45 fun (s46 : Sl) =>
                                                                                        Idx s46.a s46.len (IntKind.i64.wrap (n20 - 1)) fun (p47 : Addr) =>
                                                                                          Ld PG ty_string (p47.add ((IntKind.i64.wrap (n20 - 1)).toNat * 5))
                                                                                            (Kd.one (Cmp.leaf Leaf.str)) h45 fun (t48 : ByteArray) =>
                                                                                            Ld PG ty_string (Addr.mk k30 0 none) (Kd.one (Cmp.leaf Leaf.str)) h45
                                                                                              fun (t49 : ByteArray) =>
                                                                                              CallF PG fn_dunnageref09_Less [Value.string t48, Value.string t49] (Kd.one (Cmp.leaf Leaf.bool)) h45
                                                                                                fun (b50 : Bool) (h51 : Mem) =>
                                                                                                Br (!b50) (Q false h51)
                                                                                                  (I17 (IntKind.i64.wrap (n20 + 1)) h51 ∧
                                                                                                    I18 (IntKind.i64.wrap (n20 + 1)) h51 < I18 n20 h21))
                                                                                      (I17 (IntKind.i64.wrap (n20 + 1)) h45 ∧ I18 (IntKind.i64.wrap (n20 + 1)) h45 < I18 n20 h21)))
                                                                              (Br (decide (n20 > 0))
                                                                                (Ld PG ty_sl_api_Change ((Addr.mk k1 0 none).add 2) (Kd.one (Cmp.leaf Leaf.sl)) h39 fun (s52 : Sl) =>
                                                                                  Idx s52.a s52.len (IntKind.i64.wrap (n20 - 1)) fun (p53 : Addr) =>
                                                                                    Ld PG ty_string (p53.add ((IntKind.i64.wrap (n20 - 1)).toNat * 5)) (Kd.one (Cmp.leaf Leaf.str)) h39
                                                                                      fun (t54 : ByteArray) =>
                                                                                      Ld PG ty_string (Addr.mk k30 0 none) (Kd.one (Cmp.leaf Leaf.str)) h39 fun (t55 : ByteArray) =>
                                                                                        CallF PG fn_dunnageref09_Less [Value.string t54, Value.string t55] (Kd.one (Cmp.leaf Leaf.bool)) h39
                                                                                          fun (b56 : Bool) (h57 : Mem) =>
                                                                                          Br (!b56) (Q false h57)
                                                                                            (I17 (IntKind.i64.wrap (n20 + 1)) h57 ∧
                                                                                              I18 (IntKind.i64.wrap (n20 + 1)) h57 < I18 n20 h21))
                                                                                (I17 (IntKind.i64.wrap (n20 + 1)) h39 ∧ I18 (IntKind.i64.wrap (n20 + 1)) h39 < I18 n20 h21)))) ∧
                                                                    Br (!b34) (I36 true h35)
                                                                      (Ld PG ty_bool ((Addr.mk k30 0 none).add 4) (Kd.one (Cmp.leaf Leaf.bool)) h35 fun (b58 : Bool) =>
                                                                        Br b58
                                                                          (Ld PG ty_api_Ref ((Addr.mk k30 0 none).add 1)
                                                                            (Kd.one (Cmp.agg [Leaf.int IntKind.u64, Leaf.int IntKind.i64, Leaf.int IntKind.i64])) h35
                                                                            fun (n59 n60 n61 : Int) =>
                                                                            EqP PG BinOp.neq ty_api_Ref
                                                                              (Value.agg #[Value.int IntKind.u64 n59, Value.int IntKind.i64 n60, Value.int IntKind.i64 n61])
                                                                              (Value.agg #[Value.int IntKind.u64 0, Value.int IntKind.i64 0, Value.int IntKind.i64 0])
                                                                              fun (b62 : Bool) => I36 b62 h35)
                                                                          (I36 false h35)))
                                                  (Q true h21))) ∧
                              Br b11 (I13 true h12)
                                (Ld PG ty_api_Move ((Addr.mk k1 0 none).add 3)
                                  (Kd.one (Cmp.agg [Leaf.int IntKind.u64, Leaf.int IntKind.i64, Leaf.int IntKind.i64, Leaf.int IntKind.i64])) h12 fun (n63 n64 n65 n66 : Int) =>
                                  EqP PG BinOp.neq ty_api_Move (Value.agg #[Value.int IntKind.u64 n63, Value.int IntKind.i64 n64, Value.int IntKind.i64 n65, Value.int IntKind.i64 n66])
                                    (Value.agg #[Value.int IntKind.u64 0, Value.int IntKind.i64 0, Value.int IntKind.i64 0, Value.int IntKind.i64 0]) fun (b67 : Bool) =>
                                    I13 b67 h12)) ∧
                      Br b7 (I9 true h8) (Ld PG ty_sl_api_Change ((Addr.mk k1 0 none).add 2) (Kd.one (Cmp.leaf Leaf.sl)) h8 fun (s68 : Sl) => I9 (decide ((↑s68.len : Int) > 32)) h8)) ∧
              Br (decide (n4 < 1)) (I5 true h2) (Ld PG ty_sl_api_Change ((Addr.mk k1 0 none).add 2) (Kd.one (Cmp.leaf Leaf.sl)) h2 fun (s69 : Sl) => I5 (decide ((↑s69.len : Int) < 1)) h2))
        (Br (n3 == 2)
          (Ld PG ty_uint64 ((Addr.mk k1 0 none).add 1) (Kd.one (Cmp.leaf (Leaf.int IntKind.u64))) h2 fun (n70 : Int) =>
            Br (n70 == 0)
              (Ld PG ty_sl_api_Change ((Addr.mk k1 0 none).add 2) (Kd.one (Cmp.leaf Leaf.sl)) h2 fun (s71 : Sl) =>
                Br ((↑s71.len : Int) == 0)
                  (Ld PG ty_api_Move ((Addr.mk k1 0 none).add 3) (Kd.one (Cmp.agg [Leaf.int IntKind.u64, Leaf.int IntKind.i64, Leaf.int IntKind.i64, Leaf.int IntKind.i64])) h2
                    fun (n72 n73 n74 n75 : Int) =>
                    CallF PG fn_dunnageref10_MayMove [Value.agg #[Value.int IntKind.u64 n72, Value.int IntKind.i64 n73, Value.int IntKind.i64 n74, Value.int IntKind.i64 n75]]
                      (Kd.one (Cmp.leaf Leaf.bool)) h2 fun (b76 : Bool) (h77 : Mem) => Q b76 h77)
                  (Q false h2))
              (Q false h2))
          (Q false h2))
theorem eq_dunnageref10_May (r_0 : Int) (r_1 : Int) (r_2 : Sl) (r_3 : Int) (r_4 : Int) (r_5 : Int) (r_6 : Int) (h : Mem) (Q : Bool → Mem → Prop) : wp_dunnageref10_May r_0 r_1 r_2 r_3 r_4 r_5 r_6 h Q = evFn PG fn_dunnageref10_May tab_dunnageref10_May [.agg #[.int .i64 r_0, .int .u64 r_1, .slice r_2.a r_2.len r_2.cap, .int .u64 r_3, .int .i64 r_4, .int .i64 r_5, .int .i64 r_6]] (.one (.leaf .bool)) h Q := by kernel_rfl
theorem ok_dunnageref10_May : okF PG fn_dunnageref10_May tab_dunnageref10_May = true := by kernel_rfl
theorem call_dunnageref10_May {r_0 : Int} {r_1 : Int} {r_2 : Sl} {r_3 : Int} {r_4 : Int} {r_5 : Int} {r_6 : Int} {h : Mem} {Q : Bool → Mem → Prop} (w : wp_dunnageref10_May r_0 r_1 r_2 r_3 r_4 r_5 r_6 h Q) : CallF PG fn_dunnageref10_May [.agg #[.int .i64 r_0, .int .u64 r_1, .slice r_2.a r_2.len r_2.cap, .int .u64 r_3, .int .i64 r_4, .int .i64 r_5, .int .i64 r_6]] (.one (.leaf .bool)) h Q := callF_of PM ok_dunnageref10_May (eq_dunnageref10_May r_0 r_1 r_2 r_3 r_4 r_5 r_6 h Q ▸ w)

/- 46: dunnage/dunnagehelp.Bytes -/
def tab_dunnagehelp_Bytes : Tab := ⟨[], [], []⟩
def wp_dunnagehelp_Bytes (a : Sl) (b : Sl) (h : Mem) (Q : Bool → Mem → Prop) : Prop :=
  ReadT PG (Conv.bytesToString (Value.slice a.a a.len a.cap)) (Kd.one (Cmp.leaf Leaf.str)) h fun (t1 : ByteArray) =>
    ReadT PG (Conv.bytesToString (Value.slice b.a b.len b.cap)) (Kd.one (Cmp.leaf Leaf.str)) h fun (t2 : ByteArray) => Q (sEq t1 t2) h
theorem eq_dunnagehelp_Bytes (a : Sl) (b : Sl) (h : Mem) (Q : Bool → Mem → Prop) : wp_dunnagehelp_Bytes a b h Q = evFn PG fn_dunnagehelp_Bytes tab_dunnagehelp_Bytes [.slice a.a a.len a.cap, .slice b.a b.len b.cap] (.one (.leaf .bool)) h Q := by kernel_rfl
theorem ok_dunnagehelp_Bytes : okF PG fn_dunnagehelp_Bytes tab_dunnagehelp_Bytes = true := by kernel_rfl
theorem call_dunnagehelp_Bytes {a : Sl} {b : Sl} {h : Mem} {Q : Bool → Mem → Prop} (w : wp_dunnagehelp_Bytes a b h Q) : CallF PG fn_dunnagehelp_Bytes [.slice a.a a.len a.cap, .slice b.a b.len b.cap] (.one (.leaf .bool)) h Q := callF_of PM ok_dunnagehelp_Bytes (eq_dunnagehelp_Bytes a b h Q ▸ w)

/- 47: dunnage/dunnagehelp.Kept[dunnage/api.Change]; loop 5: [i] -/
def tab_dunnagehelp_Kept_api_Change_ : Tab := ⟨[(5, ⟨[(8, .leaf (.int .i64))], [6, 28, 29, 30, 31, 32, 33, 34, 35, 36, 37, 38, 39]⟩)], [], []⟩
def wp_dunnagehelp_Kept_api_Change_ (out : Sl) (l : Sl) (fill_0 : ByteArray) (fill_1 : Int) (fill_2 : Int) (fill_3 : Int) (fill_4 : Bool) (h : Mem) (Q : Bool → Mem → Prop) : Prop :=
  New (Obj.cells #[Value.string fill_0, Value.int IntKind.u64 fill_1, Value.int IntKind.i64 fill_2, Value.int IntKind.i64 fill_3, Value.bool fill_4] ty_api_Change) h
    fun (k1 : Nat) (h2 : Mem) =>
    CallF PG fn_dunnagehelp_Plain_api_Change_ [Value.slice out.a out.len out.cap, Value.slice l.a l.len l.cap] (Kd.one (Cmp.leaf Leaf.bool)) h2 fun (b3 : Bool) (h4 : Mem) =>
      Br (!b3) (Q false h4)
        (Br (decide ((↑out.cap : Int) < IntKind.i64.wrap ((↑l.len : Int) + 3))) (Q false h4)
          (Cut 5 out.a out.len out.cap none (some (IntKind.i64.wrap ((↑l.len : Int) + 3))) none fun (s5 : Sl) =>
            ∃ (I6 : Int → Mem → Prop),
              ∃ (I7 : Int → Mem → Nat),
                I6 (↑l.len : Int) h4 ∧
                  ∀ (j8 : Fr) (n9 : Int) (h10 : Mem),
                    I6 n9 h10 →
                      Br (decide (n9 < (↑s5.len : Int)))
                        (Idx s5.a s5.len n9 fun (p11 : Addr) =>
                          Ld PG ty_api_Change (p11.add (n9.toNat * 5)) (Kd.one (Cmp.agg [Leaf.str, Leaf.int IntKind.u64, Leaf.int IntKind.i64, Leaf.int IntKind.i64, Leaf.bool])) h10
                            fun (t12 : ByteArray) (n13 n14 n15 : Int) (b16 : Bool) =>
                            Ld PG ty_api_Change (Addr.mk k1 0 none) (Kd.one (Cmp.agg [Leaf.str, Leaf.int IntKind.u64, Leaf.int IntKind.i64, Leaf.int IntKind.i64, Leaf.bool])) h10
                              fun (t17 : ByteArray) (n18 n19 n20 : Int) (b21 : Bool) =>
                              EqP PG BinOp.neq ty_api_Change
                                (Value.agg #[Value.string t12, Value.int IntKind.u64 n13, Value.int IntKind.i64 n14, Value.int IntKind.i64 n15, Value.bool b16])
                                (Value.agg #[Value.string t17, Value.int IntKind.u64 n18, Value.int IntKind.i64 n19, Value.int IntKind.i64 n20, Value.bool b21]) fun (b22 : Bool) =>
                                Br b22 (Q false h10) (I6 (IntKind.i64.wrap (n9 + 1)) h10 ∧ I7 (IntKind.i64.wrap (n9 + 1)) h10 < I7 n9 h10))
                        (Q true h10)))
theorem eq_dunnagehelp_Kept_api_Change_ (out : Sl) (l : Sl) (fill_0 : ByteArray) (fill_1 : Int) (fill_2 : Int) (fill_3 : Int) (fill_4 : Bool) (h : Mem) (Q : Bool → Mem → Prop) : wp_dunnagehelp_Kept_api_Change_ out l fill_0 fill_1 fill_2 fill_3 fill_4 h Q = evFn PG fn_dunnagehelp_Kept_api_Change_ tab_dunnagehelp_Kept_api_Change_ [.slice out.a out.len out.cap, .slice l.a l.len l.cap, .agg #[.string fill_0, .int .u64 fill_1, .int .i64 fill_2, .int .i64 fill_3, .bool fill_4]] (.one (.leaf .bool)) h Q := by kernel_rfl
theorem ok_dunnagehelp_Kept_api_Change_ : okF PG fn_dunnagehelp_Kept_api_Change_ tab_dunnagehelp_Kept_api_Change_ = true := by kernel_rfl
theorem call_dunnagehelp_Kept_api_Change_ {out : Sl} {l : Sl} {fill_0 : ByteArray} {fill_1 : Int} {fill_2 : Int} {fill_3 : Int} {fill_4 : Bool} {h : Mem} {Q : Bool → Mem → Prop} (w : wp_dunnagehelp_Kept_api_Change_ out l fill_0 fill_1 fill_2 fill_3 fill_4 h Q) : CallF PG fn_dunnagehelp_Kept_api_Change_ [.slice out.a out.len out.cap, .slice l.a l.len l.cap, .agg #[.string fill_0, .int .u64 fill_1, .int .i64 fill_2, .int .i64 fill_3, .bool fill_4]] (.one (.leaf .bool)) h Q := callF_of PM ok_dunnagehelp_Kept_api_Change_ (eq_dunnagehelp_Kept_api_Change_ out l fill_0 fill_1 fill_2 fill_3 fill_4 h Q ▸ w)

/- 48: dunnage/dunnagehelp.CopyPairs; loop 3: [out, i] -/
def tab_dunnagehelp_CopyPairs : Tab := ⟨[(3, ⟨[(3, .leaf .sl), (4, .leaf (.int .i64))], [5, 6, 7, 8, 9, 10, 11, 12, 13, 14, 15, 16, 17, 18, 19, 20, 21, 22, 23, 24, 25]⟩)], [], []⟩
def wp_dunnagehelp_CopyPairs (l : Sl) (h : Mem) (Q : Sl → Mem → Prop) : Prop :=
  ∃ (I1 : Sl → Int → Mem → Prop),
    ∃ (I2 : Sl → Int → Mem → Nat),
      I1 (Sl.mk none 0 0) 0 h ∧
        ∀ (j3 : Fr) (s4 : Sl) (n5 : Int) (h6 : Mem),
          I1 s4 n5 h6 →
            Br (decide (n5 < (↑l.len : Int)))
              (Idx l.a l.len n5 fun (p7 : Addr) =>
                Ld PG ty_string (p7.add (n5.toNat * 2)) (Kd.one (Cmp.leaf Leaf.str)) h6 fun (t8 : ByteArray) =>
                  Idx l.a l.len n5 fun (p9 : Addr) =>
                    Ld PG ty_sl_uint8 ((p9.add (n5.toNat * 2)).add 1) (Kd.one (Cmp.leaf Leaf.sl)) h6 fun (s10 : Sl) =>
                      CallF PG fn_dunnagehelp_CopyBytes [Value.slice s10.a s10.len s10.cap] (Kd.one (Cmp.leaf Leaf.sl)) h6 fun (s11 : Sl) (h12 : Mem) =>
                        (Ld PG ty_string (p7.add (n5.toNat * 2)) (Kd.one (Cmp.leaf Leaf.str)) h12 fun (t13 : ByteArray) => Value.string t13 = Value.string t8) ∧
                          New (Obj.cells #[Value.string t8, Value.slice s11.a s11.len s11.cap] ty_api_Pair) h12 fun (k14 : Nat) (h15 : Mem) =>
                            PrimT PG (Builtin.append_ #[ty_sl_api_Pair, ty_sl_api_Pair] ty_sl_api_Pair #[Value.slice s4.a s4.len s4.cap, Value.slice (some (Addr.mk k14 0 none)) 1 1]) (Kd.one (Cmp.leaf Leaf.sl))
                              h15 fun (s16 : Sl) (h17 : Mem) =>
                              I1 (Sl.mk s16.a s16.len s16.cap) (IntKind.i64.wrap (n5 + 1)) h17 ∧ I2 (Sl.mk s16.a s16.len s16.cap) (IntKind.i64.wrap (n5 + 1)) h17 < I2 s4 n5 h6)
              (Q (Sl.mk s4.a s4.len s4.cap) h6)
theorem eq_dunnagehelp_CopyPairs (l : Sl) (h : Mem) (Q : Sl → Mem → Prop) : wp_dunnagehelp_CopyPairs l h Q = evFn PG fn_dunnagehelp_CopyPairs tab_dunnagehelp_CopyPairs [.slice l.a l.len l.cap] (.one (.leaf .sl)) h Q := by kernel_rfl
theorem ok_dunnagehelp_CopyPairs : okF PG fn_dunnagehelp_CopyPairs tab_dunnagehelp_CopyPairs = true := by kernel_rfl
theorem call_dunnagehelp_CopyPairs {l : Sl} {h : Mem} {Q : Sl → Mem → Prop} (w : wp_dunnagehelp_CopyPairs l h Q) : CallF PG fn_dunnagehelp_CopyPairs [.slice l.a l.len l.cap] (.one (.leaf .sl)) h Q := callF_of PM ok_dunnagehelp_CopyPairs (eq_dunnagehelp_CopyPairs l h Q ▸ w)

/- 49: dunnage/dunnagehelp.CopyOps; loop 3: [out, i] -/
def tab_dunnagehelp_CopyOps : Tab := ⟨[(3, ⟨[(3, .leaf .sl), (4, .leaf (.int .i64))], [5, 6, 7, 8, 9, 10, 11, 12, 13, 14, 15, 16, 17, 18, 19, 20, 21, 22, 23, 24, 25, 26, 27, 28, 29, 30]⟩)], [], []⟩
def wp_dunnagehelp_CopyOps (l : Sl) (h : Mem) (Q : Sl → Mem → Prop) : Prop :=
  ∃ (I1 : Sl → Int → Mem → Prop),
    ∃ (I2 : Sl → Int → Mem → Nat),
      I1 (Sl.mk none 0 0) 0 h ∧
        ∀ (j3 : Fr) (s4 : Sl) (n5 : Int) (h6 : Mem),
          I1 s4 n5 h6 →
            Br (decide (n5 < (↑l.len : Int)))
              (Idx l.a l.len n5 fun (p7 : Addr) =>
                Ld PG ty_string (p7.add (n5.toNat * 3)) (Kd.one (Cmp.leaf Leaf.str)) h6 fun (t8 : ByteArray) =>
                  Idx l.a l.len n5 fun (p9 : Addr) =>
                    Ld PG ty_sl_uint8 ((p9.add (n5.toNat * 3)).add 1) (Kd.one (Cmp.leaf Leaf.sl)) h6 fun (s10 : Sl) =>
                      Idx l.a l.len n5 fun (p11 : Addr) =>
                        Ld PG ty_bool ((p11.add (n5.toNat * 3)).add 2) (Kd.one (Cmp.leaf Leaf.bool)) h6 fun (b12 : Bool) =>
                          CallF PG fn_dunnagehelp_CopyBytes [Value.slice s10.a s10.len s10.cap] (Kd.one (Cmp.leaf Leaf.sl)) h6 fun (s13 : Sl) (h14 : Mem) =>
                            (Ld PG ty_bool ((p11.add (n5.toNat * 3)).add 2) (Kd.one (Cmp.leaf Leaf.bool)) h14 fun (b15 : Bool) => Value.bool b15 = Value.bool b12) ∧
                              (Ld PG ty_string (p7.add (n5.toNat * 3)) (Kd.one (Cmp.leaf Leaf.str)) h14 fun (t16 : ByteArray) => Value.string t16 = Value.string t8) ∧
                                New (Obj.cells #[Value.string t8, Value.slice s13.a s13.len s13.cap, Value.bool b12] ty_api_Op) h14 fun (k17 : Nat) (h18 : Mem) =>
                                  PrimT PG (Builtin.append_ #[ty_sl_api_Op, ty_sl_api_Op] ty_sl_api_Op #[Value.slice s4.a s4.len s4.cap, Value.slice (some (Addr.mk k17 0 none)) 1 1])
                                    (Kd.one (Cmp.leaf Leaf.sl)) h18 fun (s19 : Sl) (h20 : Mem) =>
                                    I1 (Sl.mk s19.a s19.len s19.cap) (IntKind.i64.wrap (n5 + 1)) h20 ∧ I2 (Sl.mk s19.a s19.len s19.cap) (IntKind.i64.wrap (n5 + 1)) h20 < I2 s4 n5 h6)
              (Q (Sl.mk s4.a s4.len s4.cap) h6)
theorem eq_dunnagehelp_CopyOps (l : Sl) (h : Mem) (Q : Sl → Mem → Prop) : wp_dunnagehelp_CopyOps l h Q = evFn PG fn_dunnagehelp_CopyOps tab_dunnagehelp_CopyOps [.slice l.a l.len l.cap] (.one (.leaf .sl)) h Q := by kernel_rfl
theorem ok_dunnagehelp_CopyOps : okF PG fn_dunnagehelp_CopyOps tab_dunnagehelp_CopyOps = true := by kernel_rfl
theorem call_dunnagehelp_CopyOps {l : Sl} {h : Mem} {Q : Sl → Mem → Prop} (w : wp_dunnagehelp_CopyOps l h Q) : CallF PG fn_dunnagehelp_CopyOps [.slice l.a l.len l.cap] (.one (.leaf .sl)) h Q := callF_of PM ok_dunnagehelp_CopyOps (eq_dunnagehelp_CopyOps l h Q ▸ w)

/- 50: dunnage/plain.Do; loop 13: [out, ]; loop 8: [out, ] -/
def tab_plain_Do : Tab := ⟨[(13, ⟨[(7, .leaf .sl), (36, .leaf (.int .i64))], [11, 12, 13, 37, 38, 39, 40, 41, 42, 43, 44, 45, 46, 47, 48, 49, 50, 51, 52, 53, 54, 55, 56, 57, 58, 59, 60, 61, 62, 63, 64, 65, 66, 67, 68, 69, 70, 71, 72, 73, 74, 75, 76, 77, 78, 79, 80, 81]⟩), (8, ⟨[(7, .leaf .sl), (24, .leaf (.int .i64))], [9, 25, 26, 27, 28, 29, 30, 31, 32, 33]⟩)], [], [(16, (chainT [(0, false), (1, false)] (.join ⟨[(52, .leaf .bool)], [50, 51]⟩ (chainT [(2, false), (3, false), (4, false)] .nil) (chainT [(5, false)] .nil))))]⟩
def wp_plain_Do (l : Sl) (ops : Sl) (h : Mem) (Q : Sl → Int → Mem → Prop) : Prop :=
  CallF PG fn_plain_Check [Value.slice l.a l.len l.cap] (Kd.one (Cmp.leaf (Leaf.int IntKind.i64))) h fun (n1 : Int) (h2 : Mem) =>
    Br (n1 != 0) (Q (Sl.mk none 0 0) 11 h2)
      (CallF PG fn_batch_Check [Value.slice ops.a ops.len ops.cap] (Kd.one (Cmp.leaf (Leaf.int IntKind.i64))) h2 fun (n3 : Int) (h4 : Mem) =>
        Br (n3 != 0) (Q (Sl.mk none 0 0) n3 h4)
          (∃ (I5 : Sl → Int → Mem → Prop),
            ∃ (I6 : Sl → Int → Mem → Nat),
              I5 (Sl.mk none 0 0) 0 h4 ∧
                ∀ (j7 : Fr) (s8 : Sl) (n9 : Int) (h10 : Mem),
                  I5 s8 n9 h10 →
                    Br (decide (n9 < (↑l.len : Int)))
                      (Idx l.a l.len n9 fun (p11 : Addr) =>
                        Ld PG ty_api_Pair (p11.add (n9.toNat * 2)) (Kd.one (Cmp.agg [Leaf.str, Leaf.sl])) h10 fun (t12 : ByteArray) (s13 : Sl) =>
                          New (Obj.cells #[Value.string (ByteArray.mk #[]), Value.slice none 0 0] ty_api_Pair) h10 fun (k14 : Nat) (h15 : Mem) =>
                            St PG ty_api_Pair (Addr.mk k14 0 none) (Value.agg #[Value.string t12, Value.slice s13.a s13.len s13.cap]) h15 fun (h16 : Mem) =>
                              Ld PG ty_api_Pair (Addr.mk k14 0 none) (Kd.one (Cmp.agg [Leaf.str, Leaf.sl])) h16 fun (t17 : ByteArray) (s18 : Sl) =>
                                CallF PG fn_plain_own [Value.agg #[Value.string t17, Value.slice s18.a s18.len s18.cap]] (Kd.one (Cmp.agg [Leaf.str, Leaf.sl])) h16
                                  fun (t19 : ByteArray) (s20 : Sl) (h21 : Mem) =>
                                  New (Obj.cells #[Value.string t19, Value.slice s20.a s20.len s20.cap] ty_api_Pair) h21 fun (k22 : Nat) (h23 : Mem) =>
                                    PrimT PG (Builtin.append_ #[ty_sl_api_Pair, ty_sl_api_Pair] ty_sl_api_Pair #[Value.slice s8.a s8.len s8.cap, Value.slice (some (Addr.mk k22 0 none)) 1 1])
                                      (Kd.one (Cmp.leaf Leaf.sl)) h23 fun (s24 : Sl) (h25 : Mem) =>
                                      I5 (Sl.mk s24.a s24.len s24.cap) (IntKind.i64.wrap (n9 + 1)) h25 ∧
                                        I6 (Sl.mk s24.a s24.len s24.cap) (IntKind.i64.wrap (n9 + 1)) h25 < I6 s8 n9 h10)
                      (∃ (I26 : Sl → Int → Mem → Prop),
                        ∃ (I27 : Sl → Int → Mem → Nat),
                          I26 (Sl.mk s8.a s8.len s8.cap) 0 h10 ∧
                            ∀ (j28 : Fr) (s29 : Sl) (n30 : Int) (h31 : Mem),
                              I26 s29 n30 h31 →
                                Br (decide (n30 < (↑ops.len : Int)))
                                  (Idx ops.a ops.len n30 fun (p32 : Addr) =>
                                    Ld PG ty_api_Op (p32.add (n30.toNat * 3)) (Kd.one (Cmp.agg [Leaf.str, Leaf.sl, Leaf.bool])) h31 fun (t33 : ByteArray) (s34 : Sl) (b35 : Bool) =>
                                      New (Obj.cells #[Value.string (ByteArray.mk #[]), Value.slice none 0 0, Value.bool false] ty_api_Op) h31 fun (k36 : Nat) (h37 : Mem) =>
                                        St PG ty_api_Op (Addr.mk k36 0 none) (Value.agg #[Value.string t33, Value.slice s34.a s34.len s34.cap, Value.bool b35]) h37 fun (h38 : Mem) =>
                                          Ld PG ty_string (Addr.mk k36 0 none) (Kd.one (Cmp.leaf Leaf.str)) h38 fun (t39 : ByteArray) =>
                                            CallF PG fn_plain_place [Value.slice s29.a s29.len s29.cap, Value.string t39] (Kd.tup [Cmp.leaf (Leaf.int IntKind.i64), Cmp.leaf Leaf.bool]) h38
                                              fun (n40 : Int) (b41 : Bool) (h42 : Mem) =>
                                              ∃ (I43 : Bool → Mem → Prop),
                                                (∀ (j44 : Fr) (b45 : Bool) (h46 : Mem),
                                                    I43 b45 h46 →
                                                      Br b45
                                                        (CallF PG fn_slices_Delete_api_Pair_api_Pair_ 
                                                          [Value.slice s29.a s29.len s29.cap, Value.int IntKind.i64 n40, Value.int IntKind.i64 (IntKind.i64.wrap (n40 + 1))]
                                                          (Kd.one (Cmp.leaf Leaf.sl)) h46 fun (s47 : Sl) (h48 : Mem) =>
                                                          I26 (Sl.mk s47.a s47.len s47.cap) (IntKind.i64.wrap (n30 + 1)) h48 ∧
                                                            I27 (Sl.mk s47.a s47.len s47.cap) (IntKind.i64.wrap (n30 + 1)) h48 < I27 s29 n30 h31)
                                                        (Br b41
                                                          (Ld PG ty_sl_uint8 ((Addr.mk k36 0 none).add 1) (Kd.one (Cmp.leaf Leaf.sl)) h46 fun (s49 : Sl) =>
                                                            CallF PG fn_slices_Clone_byte_byte_ [Value.slice s49.a s49.len s49.cap] (Kd.one (Cmp.leaf Leaf.sl)) h46 fun (s50 : Sl) (h51 : Mem) =>
                                                              Idx s29.a s29.len n40 fun (p52 : Addr) =>
                                                                St PG ty_sl_uint8 ((p52.add (n40.toNat * 2)).add 1) (Value.slice s50.a s50.len s50.cap) h51 fun (h53 : Mem) =>
                                                                  I26 (Sl.mk s29.a s29.len s29.cap) (IntKind.i64.wrap (n30 + 1)) h53 ∧
                                                                    I27 (Sl.mk s29.a s29.len s29.cap) (IntKind.i64.wrap (n30 + 1)) h53 < I27 s29 n30 h31)
                                                          (Ld PG ty_bool ((Addr.mk k36 0 none).add 2) (Kd.one (Cmp.leaf Leaf.bool)) h46 fun (b54 : Bool) =>
                                                            Br (!b54)
                                                              (Ld PG ty_string (Addr.mk k36 0 none) (Kd.one (Cmp.leaf Leaf.str)) h46 fun (t55 : ByteArray) =>
                                                                Ld PG ty_sl_uint8 ((Addr.mk k36 0 none).add 1) (Kd.one (Cmp.leaf Leaf.sl)) h46 fun (s56 : Sl) =>
                                                                  CallF PG fn_plain_own [Value.agg #[Value.string t55, Value.slice s56.a s56.len s56.cap]]
                                                                    (Kd.one (Cmp.agg [Leaf.str, Leaf.sl])) h46 fun (t57 : ByteArray) (s58 : Sl) (h59 : Mem) =>
                                                                    New (Obj.cells #[Value.string t57, Value.slice s58.a s58.len s58.cap] ty_api_Pair) h59 fun (k60 : Nat) (h61 : Mem) =>
                                                                      CallF PG fn_slices_Insert_api_Pair_api_Pair_ 
                                                                        [Value.slice s29.a s29.len s29.cap, Value.int IntKind.i64 n40, Value.slice (some (Addr.mk k60 0 none)) 1 1]
                                                                        (Kd.one (Cmp.leaf Leaf.sl)) h61 fun (s62 : Sl) (h63 : Mem) =>
                                                                        I26 (Sl.mk s62.a s62.len s62.cap) (IntKind.i64.wrap (n30 + 1)) h63 ∧
                                                                          I27 (Sl.mk s62.a s62.len s62.cap) (IntKind.i64.wrap (n30 + 1)) h63 < I27 s29 n30 h31)
                                                              (I26 (Sl.mk s29.a s29.len s29.cap) (IntKind.i64.wrap (n30 + 1)) h46 ∧
                                                                I27 (Sl.mk s29.a s29.len s29.cap) (IntKind.i64.wrap (n30 + 1)) h46 < I27 s29 n30 h31)))) ∧
                                                  Br b41 (Ld PG ty_bool ((Addr.mk k36 0 none).add 2) (Kd.one (Cmp.leaf Leaf.bool)) h42 fun (b64 : Bool) => I43 b64 h42)
                                                    (I43 false h42))
                                  (Q (Sl.mk s29.a s29.len s29.cap) 0 h31))))
theorem eq_plain_Do (l : Sl) (ops : Sl) (h : Mem) (Q : Sl → Int → Mem → Prop) : wp_plain_Do l ops h Q = evFn PG fn_plain_Do tab_plain_Do [.slice l.a l.len l.cap, .slice ops.a ops.len ops.cap] (.tup [(.leaf .sl), (.leaf (.int .i64))]) h Q := by kernel_rfl
theorem ok_plain_Do : okF PG fn_plain_Do tab_plain_Do = true := by kernel_rfl
theorem call_plain_Do {l : Sl} {ops : Sl} {h : Mem} {Q : Sl → Int → Mem → Prop} (w : wp_plain_Do l ops h Q) : CallF PG fn_plain_Do [.slice l.a l.len l.cap, .slice ops.a ops.len ops.cap] (.tup [(.leaf .sl), (.leaf (.int .i64))]) h Q := callF_of PM ok_plain_Do (eq_plain_Do l ops h Q ▸ w)

/- 51: dunnage/dunnageref11.Do; loop 8: [out, i] -/
def tab_dunnageref11_Do : Tab := ⟨[(8, ⟨[(7, .leaf .sl), (8, .leaf (.int .i64))], [19, 20, 21, 22, 23, 24, 25, 26, 27, 28, 29, 30]⟩)], [], []⟩
def wp_dunnageref11_Do (l : Sl) (ops : Sl) (h : Mem) (Q : Sl → Int → Mem → Prop) : Prop :=
  CallF PG fn_dunnageref11_Right [Value.slice l.a l.len l.cap] (Kd.one (Cmp.leaf Leaf.bool)) h fun (b1 : Bool) (h2 : Mem) =>
    Br (!b1) (Q (Sl.mk none 0 0) 11 h2)
      (CallF PG fn_dunnageref10_Check [Value.slice ops.a ops.len ops.cap] (Kd.one (Cmp.leaf (Leaf.int IntKind.i64))) h2 fun (n3 : Int) (h4 : Mem) =>
        Br (n3 != 0) (Q (Sl.mk none 0 0) n3 h4)
          (CallF PG fn_dunnagehelp_CopyPairs [Value.slice l.a l.len l.cap] (Kd.one (Cmp.leaf Leaf.sl)) h4 fun (s5 : Sl) (h6 : Mem) =>
            ∃ (I7 : Sl → Int → Mem → Prop),
              ∃ (I8 : Sl → Int → Mem → Nat),
                I7 (Sl.mk s5.a s5.len s5.cap) 0 h6 ∧
                  ∀ (j9 : Fr) (s10 : Sl) (n11 : Int) (h12 : Mem),
                    I7 s10 n11 h12 →
                      Br (decide (n11 < (↑ops.len : Int)))
                        (Idx ops.a ops.len n11 fun (p13 : Addr) =>
                          Ld PG ty_api_Op (p13.add (n11.toNat * 3)) (Kd.one (Cmp.agg [Leaf.str, Leaf.sl, Leaf.bool])) h12 fun (t14 : ByteArray) (s15 : Sl) (b16 : Bool) =>
                            CallF PG fn_dunnageref11_One [Value.slice s10.a s10.len s10.cap, Value.agg #[Value.string t14, Value.slice s15.a s15.len s15.cap, Value.bool b16]]
                              (Kd.one (Cmp.leaf Leaf.sl)) h12 fun (s17 : Sl) (h18 : Mem) =>
                              I7 (Sl.mk s17.a s17.len s17.cap) (IntKind.i64.wrap (n11 + 1)) h18 ∧ I8 (Sl.mk s17.a s17.len s17.cap) (IntKind.i64.wrap (n11 + 1)) h18 < I8 s10 n11 h12)
                        (Q (Sl.mk s10.a s10.len s10.cap) 0 h12)))
theorem eq_dunnageref11_Do (l : Sl) (ops : Sl) (h : Mem) (Q : Sl → Int → Mem → Prop) : wp_dunnageref11_Do l ops h Q = evFn PG fn_dunnageref11_Do tab_dunnageref11_Do [.slice l.a l.len l.cap, .slice ops.a ops.len ops.cap] (.tup [(.leaf .sl), (.leaf (.int .i64))]) h Q := by kernel_rfl
theorem ok_dunnageref11_Do : okF PG fn_dunnageref11_Do tab_dunnageref11_Do = true := by kernel_rfl
theorem call_dunnageref11_Do {l : Sl} {ops : Sl} {h : Mem} {Q : Sl → Int → Mem → Prop} (w : wp_dunnageref11_Do l ops h Q) : CallF PG fn_dunnageref11_Do [.slice l.a l.len l.cap, .slice ops.a ops.len ops.cap] (.tup [(.leaf .sl), (.leaf (.int .i64))]) h Q := callF_of PM ok_dunnageref11_Do (eq_dunnageref11_Do l ops h Q ▸ w)

/- 52: dunnage/dunnagelaw11.awake -/
def tab_dunnagelaw11_awake : Tab := ⟨[], [], []⟩
def wp_dunnagelaw11_awake  (h : Mem) (Q : Bool → Mem → Prop) : Prop :=
  New (Obj.cells #[Value.int IntKind.u8 49] ty_uint8) h fun (k1 : Nat) (h2 : Mem) =>
    PrimT PG (convert ty_sl_uint8 ty_sl_uint8 (Value.slice (some (Addr.mk k1 0 none)) 1 1)) (Kd.one (Cmp.leaf Leaf.sl)) h2 fun (s3 : Sl) (h4 : Mem) =>
      New (Obj.cells #[Value.string (ByteArray.mk #[97]), Value.slice s3.a s3.len s3.cap, Value.bool false] ty_api_Op) h4 fun (k5 : Nat) (h6 : Mem) =>
        CallF PG fn_plain_Do [Value.slice none 0 0, Value.slice (some (Addr.mk k5 0 none)) 1 1] (Kd.tup [Cmp.leaf Leaf.sl, Cmp.leaf (Leaf.int IntKind.i64)]) h6
          fun (s7 : Sl) (n8 : Int) (h9 : Mem) =>
          Br (n8 == 0)
            (Br ((↑s7.len : Int) == 1)
              (CallF PG fn_plain_Bytes [Value.slice s7.a s7.len s7.cap] (Kd.one (Cmp.leaf (Leaf.int IntKind.i64))) h9 fun (n10 : Int) (h11 : Mem) => Q (n10 == 2) h11) (Q false h9))
            (Q false h9)
theorem eq_dunnagelaw11_awake  (h : Mem) (Q : Bool → Mem → Prop) : wp_dunnagelaw11_awake  h Q = evFn PG fn_dunnagelaw11_awake tab_dunnagelaw11_awake [] (.one (.leaf .bool)) h Q := by kernel_rfl
theorem ok_dunnagelaw11_awake : okF PG fn_dunnagelaw11_awake tab_dunnagelaw11_awake = true := by kernel_rfl
theorem call_dunnagelaw11_awake {h : Mem} {Q : Bool → Mem → Prop} (w : wp_dunnagelaw11_awake  h Q) : CallF PG fn_dunnagelaw11_awake [] (.one (.leaf .bool)) h Q := callF_of PM ok_dunnagelaw11_awake (eq_dunnagelaw11_awake  h Q ▸ w)

/- 53: dunnage/dunnagehelp.Pairs -/
def tab_dunnagehelp_Pairs : Tab := ⟨[], [], []⟩
def wp_dunnagehelp_Pairs (a : Sl) (b : Sl) (h : Mem) (Q : Bool → Mem → Prop) : Prop :=
  CallF PG fn_dunnagehelp_Same_api_Pair_ [Value.slice a.a a.len a.cap, Value.slice b.a b.len b.cap, Value.func (Fn.func fn_dunnagehelp_Pair) #[] #[]] (Kd.one (Cmp.leaf Leaf.bool)) h fun (b1 : Bool) (h2 : Mem) => Q b1 h2
theorem eq_dunnagehelp_Pairs (a : Sl) (b : Sl) (h : Mem) (Q : Bool → Mem → Prop) : wp_dunnagehelp_Pairs a b h Q = evFn PG fn_dunnagehelp_Pairs tab_dunnagehelp_Pairs [.slice a.a a.len a.cap, .slice b.a b.len b.cap] (.one (.leaf .bool)) h Q := by kernel_rfl
theorem ok_dunnagehelp_Pairs : okF PG fn_dunnagehelp_Pairs tab_dunnagehelp_Pairs = true := by kernel_rfl
theorem call_dunnagehelp_Pairs {a : Sl} {b : Sl} {h : Mem} {Q : Bool → Mem → Prop} (w : wp_dunnagehelp_Pairs a b h Q) : CallF PG fn_dunnagehelp_Pairs [.slice a.a a.len a.cap, .slice b.a b.len b.cap] (.one (.leaf .bool)) h Q := callF_of PM ok_dunnagehelp_Pairs (eq_dunnagehelp_Pairs a b h Q ▸ w)

/- 54: dunnage/dunnagehelp.Spoil; loop 1: [i] -/
def tab_dunnagehelp_Spoil : Tab := ⟨[(1, ⟨[(2, .leaf (.int .i64))], [3, 4, 5, 6, 7, 8, 9, 10, 11, 12, 13, 14, 15, 16]⟩)], [], []⟩
def wp_dunnagehelp_Spoil (b : Sl) (h : Mem) (Q : Mem → Prop) : Prop :=
  ∃ (I1 : Int → Mem → Prop),
    ∃ (I2 : Int → Mem → Nat),
      I1 0 h ∧
        ∀ (j3 : Fr) (n4 : Int) (h5 : Mem),
          I1 n4 h5 →
            Br (decide (n4 < (↑b.len : Int)))
              (Idx b.a b.len n4 fun (p6 : Addr) =>
                Ld PG ty_uint8 (p6.add (n4.toNat * 1)) (Kd.one (Cmp.leaf (Leaf.int IntKind.u8))) h5 fun (n7 : Int) =>
                  Idx b.a b.len n4 fun (p8 : Addr) =>
                    St PG ty_uint8 (p8.add (n4.toNat * 1)) (Value.int IntKind.u8 (bitsOf BinOp.xor IntKind.u8 n7 85)) h5 fun (h9 : Mem) =>
                      I1 (IntKind.i64.wrap (n4 + 1)) h9 ∧ I2 (IntKind.i64.wrap (n4 + 1)) h9 < I2 n4 h5)
              (Q h5)
theorem eq_dunnagehelp_Spoil (b : Sl) (h : Mem) (Q : Mem → Prop) : wp_dunnagehelp_Spoil b h Q = evFn PG fn_dunnagehelp_Spoil tab_dunnagehelp_Spoil [.slice b.a b.len b.cap] (.tup []) h Q := by kernel_rfl
theorem ok_dunnagehelp_Spoil : okF PG fn_dunnagehelp_Spoil tab_dunnagehelp_Spoil = true := by kernel_rfl
theorem call_dunnagehelp_Spoil {b : Sl} {h : Mem} {Q : Mem → Prop} (w : wp_dunnagehelp_Spoil b h Q) : CallF PG fn_dunnagehelp_Spoil [.slice b.a b.len b.cap] (.tup []) h Q := callF_of PM ok_dunnagehelp_Spoil (eq_dunnagehelp_Spoil b h Q ▸ w)

/- 55: dunnage/dunnagehelp.Ops -/
def tab_dunnagehelp_Ops : Tab := ⟨[], [], []⟩
def wp_dunnagehelp_Ops (a : Sl) (b : Sl) (h : Mem) (Q : Bool → Mem → Prop) : Prop :=
  CallF PG fn_dunnagehelp_Same_api_Op_ [Value.slice a.a a.len a.cap, Value.slice b.a b.len b.cap, Value.func (Fn.func fn_dunnagehelp_Op) #[] #[]] (Kd.one (Cmp.leaf Leaf.bool)) h fun (b1 : Bool) (h2 : Mem) => Q b1 h2
theorem eq_dunnagehelp_Ops (a : Sl) (b : Sl) (h : Mem) (Q : Bool → Mem → Prop) : wp_dunnagehelp_Ops a b h Q = evFn PG fn_dunnagehelp_Ops tab_dunnagehelp_Ops [.slice a.a a.len a.cap, .slice b.a b.len b.cap] (.one (.leaf .bool)) h Q := by kernel_rfl
theorem ok_dunnagehelp_Ops : okF PG fn_dunnagehelp_Ops tab_dunnagehelp_Ops = true := by kernel_rfl
theorem call_dunnagehelp_Ops {a : Sl} {b : Sl} {h : Mem} {Q : Bool → Mem → Prop} (w : wp_dunnagehelp_Ops a b h Q) : CallF PG fn_dunnagehelp_Ops [.slice a.a a.len a.cap, .slice b.a b.len b.cap] (.one (.leaf .bool)) h Q := callF_of PM ok_dunnagehelp_Ops (eq_dunnagehelp_Ops a b h Q ▸ w)

/- 56: dunnage/plain.Get -/
def tab_plain_Get : Tab := ⟨[], [], []⟩
def wp_plain_Get (l : Sl) (key : ByteArray) (h : Mem) (Q : Sl → Bool → Mem → Prop) : Prop :=
  CallF PG fn_plain_Check [Value.slice l.a l.len l.cap] (Kd.one (Cmp.leaf (Leaf.int IntKind.i64))) h fun (n1 : Int) (h2 : Mem) =>
    Br (n1 != 0) (Q (Sl.mk none 0 0) false h2)
      (CallF PG fn_plain_place [Value.slice l.a l.len l.cap, Value.string key] (Kd.tup [Cmp.leaf (Leaf.int IntKind.i64), Cmp.leaf Leaf.bool]) h2 fun (n3 : Int) (b4 : Bool) (h5 : Mem) =>
        Br (!b4) (Q (Sl.mk none 0 0) false h5)
          (Idx l.a l.len n3 fun (p6 : Addr) =>
            Ld PG ty_sl_uint8 ((p6.add (n3.toNat * 2)).add 1) (Kd.one (Cmp.leaf Leaf.sl)) h5 fun (s7 : Sl) =>
              CallF PG fn_slices_Clone_byte_byte_ [Value.slice s7.a s7.len s7.cap] (Kd.one (Cmp.leaf Leaf.sl)) h5 fun (s8 : Sl) (h9 : Mem) => Q (Sl.mk s8.a s8.len s8.cap) true h9))
theorem eq_plain_Get (l : Sl) (key : ByteArray) (h : Mem) (Q : Sl → Bool → Mem → Prop) : wp_plain_Get l key h Q = evFn PG fn_plain_Get tab_plain_Get [.slice l.a l.len l.cap, .string key] (.tup [(.leaf .sl), (.leaf .bool)]) h Q := by kernel_rfl
theorem ok_plain_Get : okF PG fn_plain_Get tab_plain_Get = true := by kernel_rfl
theorem call_plain_Get {l : Sl} {key : ByteArray} {h : Mem} {Q : Sl → Bool → Mem → Prop} (w : wp_plain_Get l key h Q) : CallF PG fn_plain_Get [.slice l.a l.len l.cap, .string key] (.tup [(.leaf .sl), (.leaf .bool)]) h Q := callF_of PM ok_plain_Get (eq_plain_Get l key h Q ▸ w)

/- 57: dunnage/plain.Scan; loop 5: [out, ] -/
def tab_plain_Scan : Tab := ⟨[(5, ⟨[(9, .leaf .sl), (17, .leaf (.int .i64))], [11, 18, 19, 20, 21, 22, 23, 24, 25, 26, 27, 28, 29, 30, 31, 32, 33, 34, 35, 36, 37]⟩)], [], []⟩
def wp_plain_Scan (l : Sl) (lo : ByteArray) (hi : ByteArray) (most : Int) (h : Mem) (Q : Sl → Mem → Prop) : Prop :=
  CallF PG fn_plain_Check [Value.slice l.a l.len l.cap] (Kd.one (Cmp.leaf (Leaf.int IntKind.i64))) h fun (n1 : Int) (h2 : Mem) =>
    Br (n1 != 0) (Q (Sl.mk none 0 0) h2)
      (∃ (I3 : Sl → Int → Mem → Prop),
        ∃ (I4 : Sl → Int → Mem → Nat),
          I3 (Sl.mk none 0 0) 0 h2 ∧
            ∀ (j5 : Fr) (s6 : Sl) (n7 : Int) (h8 : Mem),
              I3 s6 n7 h8 →
                Br (decide (n7 < (↑l.len : Int)))
                  (Idx l.a l.len n7 fun (p9 : Addr) =>
                    Ld PG ty_api_Pair (p9.add (n7.toNat * 2)) (Kd.one (Cmp.agg [Leaf.str, Leaf.sl])) h8 fun (t10 : ByteArray) (s11 : Sl) =>
                      New (Obj.cells #[Value.string (ByteArray.mk #[]), Value.slice none 0 0] ty_api_Pair) h8 fun (k12 : Nat) (h13 : Mem) =>
                        St PG ty_api_Pair (Addr.mk k12 0 none) (Value.agg #[Value.string t10, Value.slice s11.a s11.len s11.cap]) h13 fun (h14 : Mem) =>
                          Br (decide ((↑s6.len : Int) < most))
                            (Ld PG ty_string (Addr.mk k12 0 none) (Kd.one (Cmp.leaf Leaf.str)) h14 fun (t15 : ByteArray) =>
                              CallF PG fn_keys_Within [Value.string lo, Value.string hi, Value.string t15] (Kd.one (Cmp.leaf Leaf.bool)) h14 fun (b16 : Bool) (h17 : Mem) =>
                                Br b16
                                  (Ld PG ty_api_Pair (Addr.mk k12 0 none) (Kd.one (Cmp.agg [Leaf.str, Leaf.sl])) h17 fun (t18 : ByteArray) (s19 : Sl) =>
                                    CallF PG fn_plain_own [Value.agg #[Value.string t18, Value.slice s19.a s19.len s19.cap]] (Kd.one (Cmp.agg [Leaf.str, Leaf.sl])) h17
                                      fun (t20 : ByteArray) (s21 : Sl) (h22 : Mem) =>
                                      New (Obj.cells #[Value.string t20, Value.slice s21.a s21.len s21.cap] ty_api_Pair) h22 fun (k23 : Nat) (h24 : Mem) =>
                                        PrimT PG (Builtin.append_ #[ty_sl_api_Pair, ty_sl_api_Pair] ty_sl_api_Pair #[Value.slice s6.a s6.len s6.cap, Value.slice (some (Addr.mk k23 0 none)) 1 1])
                                          (Kd.one (Cmp.leaf Leaf.sl)) h24 fun (s25 : Sl) (h26 : Mem) =>
                                          I3 (Sl.mk s25.a s25.len s25.cap) (IntKind.i64.wrap (n7 + 1)) h26 ∧
                                            I4 (Sl.mk s25.a s25.len s25.cap) (IntKind.i64.wrap (n7 + 1)) h26 < I4 s6 n7 h8)
                                  (I3 (Sl.mk s6.a s6.len s6.cap) (IntKind.i64.wrap (n7 + 1)) h17 ∧ I4 (Sl.mk s6.a s6.len s6.cap) (IntKind.i64.wrap (n7 + 1)) h17 < I4 s6 n7 h8))
                            (I3 (Sl.mk s6.a s6.len s6.cap) (IntKind.i64.wrap (n7 + 1)) h14 ∧ I4 (Sl.mk s6.a s6.len s6.cap) (IntKind.i64.wrap (n7 + 1)) h14 < I4 s6 n7 h8))
                  (Q (Sl.mk s6.a s6.len s6.cap) h8))
theorem eq_plain_Scan (l : Sl) (lo : ByteArray) (hi : ByteArray) (most : Int) (h : Mem) (Q : Sl → Mem → Prop) : wp_plain_Scan l lo hi most h Q = evFn PG fn_plain_Scan tab_plain_Scan [.slice l.a l.len l.cap, .string lo, .string hi, .int .i64 most] (.one (.leaf .sl)) h Q := by kernel_rfl
theorem ok_plain_Scan : okF PG fn_plain_Scan tab_plain_Scan = true := by kernel_rfl
theorem call_plain_Scan {l : Sl} {lo : ByteArray} {hi : ByteArray} {most : Int} {h : Mem} {Q : Sl → Mem → Prop} (w : wp_plain_Scan l lo hi most h Q) : CallF PG fn_plain_Scan [.slice l.a l.len l.cap, .string lo, .string hi, .int .i64 most] (.one (.leaf .sl)) h Q := callF_of PM ok_plain_Scan (eq_plain_Scan l lo hi most h Q ▸ w)

/- 58: dunnage/plain.Check; loop 2: [] -/
def tab_plain_Check : Tab := ⟨[(2, ⟨[(7, .leaf (.int .i64))], [2, 3, 4, 8, 9, 10, 11, 12, 13, 14, 15, 16, 17, 18, 19, 20, 21, 22, 23, 24, 25, 26, 27, 28, 29, 30, 31, 32, 33, 34, 35, 36, 37]⟩)], [], []⟩
def wp_plain_Check (l : Sl) (h : Mem) (Q : Int → Mem → Prop) : Prop :=
  ∃ (I1 : Int → Mem → Prop),
    ∃ (I2 : Int → Mem → Nat),
      I1 0 h ∧
        ∀ (j3 : Fr) (n4 : Int) (h5 : Mem),
          I1 n4 h5 →
            Br (decide (n4 < (↑l.len : Int)))
              (Idx l.a l.len n4 fun (p6 : Addr) =>
                Ld PG ty_api_Pair (p6.add (n4.toNat * 2)) (Kd.one (Cmp.agg [Leaf.str, Leaf.sl])) h5 fun (t7 : ByteArray) (s8 : Sl) =>
                  New (Obj.cells #[Value.string (ByteArray.mk #[]), Value.slice none 0 0] ty_api_Pair) h5 fun (k9 : Nat) (h10 : Mem) =>
                    St PG ty_api_Pair (Addr.mk k9 0 none) (Value.agg #[Value.string t7, Value.slice s8.a s8.len s8.cap]) h10 fun (h11 : Mem) =>
                      Ld PG ty_string (Addr.mk k9 0 none) (Kd.one (Cmp.leaf Leaf.str)) h11 fun (t12 : ByteArray) =>
                        CallF PG fn_keys_May [Value.string t12] (Kd.one (Cmp.leaf Leaf.bool)) h11 fun (b13 : Bool) (h14 : Mem) =>
                          Br (!b13) (Q 11 h14)
                            (Ld PG ty_sl_uint8 ((Addr.mk k9 0 none).add 1) (Kd.one (Cmp.leaf Leaf.sl)) h14 fun (s15 : Sl) =>
                              Br (decide ((↑s15.len : Int) > 4096)) (Q 11 h14)
                                (Br (decide (n4 > 0))
                                  (Ld PG ty_string (Addr.mk k9 0 none) (Kd.one (Cmp.leaf Leaf.str)) h14 fun (t16 : ByteArray) =>
                                    Idx l.a l.len (IntKind.i64.wrap (n4 - 1)) fun (p17 : Addr) =>
                                      Ld PG ty_string (p17.add ((IntKind.i64.wrap (n4 - 1)).toNat * 2)) (Kd.one (Cmp.leaf Leaf.str)) h14 fun (t18 : ByteArray) =>
                                        Br (sLt t16 t18 || sEq t16 t18) (Q 11 h14) (I1 (IntKind.i64.wrap (n4 + 1)) h14 ∧ I2 (IntKind.i64.wrap (n4 + 1)) h14 < I2 n4 h5))
                                  (I1 (IntKind.i64.wrap (n4 + 1)) h14 ∧ I2 (IntKind.i64.wrap (n4 + 1)) h14 < I2 n4 h5))))
              (Q 0 h5)
theorem eq_plain_Check (l : Sl) (h : Mem) (Q : Int → Mem → Prop) : wp_plain_Check l h Q = evFn PG fn_plain_Check tab_plain_Check [.slice l.a l.len l.cap] (.one (.leaf (.int .i64))) h Q := by kernel_rfl
theorem ok_plain_Check : okF PG fn_plain_Check tab_plain_Check = true := by kernel_rfl
theorem call_plain_Check {l : Sl} {h : Mem} {Q : Int → Mem → Prop} (w : wp_plain_Check l h Q) : CallF PG fn_plain_Check [.slice l.a l.len l.cap] (.one (.leaf (.int .i64))) h Q := callF_of PM ok_plain_Check (eq_plain_Check l h Q ▸ w)

/- 59: dunnage/dunnagehelp.Own[byte]; loop 5: [i] -/
def tab_dunnagehelp_Own_byte_ : Tab := ⟨[(5, ⟨[(7, .leaf (.int .i64))], [22, 23, 24, 25, 26, 27, 28, 29, 30, 31]⟩)], [], []⟩
def wp_dunnagehelp_Own_byte_ (l : Sl) (fill : Int) (h : Mem) (Q : Sl → Mem → Prop) : Prop :=
  PrimT PG (Instr.makeSlice ty_sl_uint8 (Value.int IntKind.i64 0) (Value.int IntKind.i64 (IntKind.i64.wrap ((↑l.len : Int) + 3)))) (Kd.one (Cmp.leaf Leaf.sl)) h
    fun (s1 : Sl) (h2 : Mem) =>
    PrimT PG (Builtin.append_ #[ty_sl_uint8, ty_sl_uint8] ty_sl_uint8 #[Value.slice s1.a s1.len s1.cap, Value.slice l.a l.len l.cap]) (Kd.one (Cmp.leaf Leaf.sl)) h2 fun (s3 : Sl) (h4 : Mem) =>
      Cut 1 s3.a s3.len s3.cap none (some (IntKind.i64.wrap ((↑l.len : Int) + 3))) none fun (s5 : Sl) =>
        ∃ (I6 : Int → Mem → Prop),
          ∃ (I7 : Int → Mem → Nat),
            I6 (↑l.len : Int) h4 ∧
              ∀ (j8 : Fr) (n9 : Int) (h10 : Mem),
                I6 n9 h10 →
                  Br (decide (n9 < (↑s5.len : Int)))
                    (Idx s5.a s5.len n9 fun (p11 : Addr) =>
                      St PG ty_uint8 (p11.add (n9.toNat * 1)) (Value.int IntKind.u8 fill) h10 fun (h12 : Mem) =>
                        I6 (IntKind.i64.wrap (n9 + 1)) h12 ∧ I7 (IntKind.i64.wrap (n9 + 1)) h12 < I7 n9 h10)
                    (Q (Sl.mk s3.a s3.len s3.cap) h10)
theorem eq_dunnagehelp_Own_byte_ (l : Sl) (fill : Int) (h : Mem) (Q : Sl → Mem → Prop) : wp_dunnagehelp_Own_byte_ l fill h Q = evFn PG fn_dunnagehelp_Own_byte_ tab_dunnagehelp_Own_byte_ [.slice l.a l.len l.cap, .int .u8 fill] (.one (.leaf .sl)) h Q := by kernel_rfl
theorem ok_dunnagehelp_Own_byte_ : okF PG fn_dunnagehelp_Own_byte_ tab_dunnagehelp_Own_byte_ = true := by kernel_rfl
theorem call_dunnagehelp_Own_byte_ {l : Sl} {fill : Int} {h : Mem} {Q : Sl → Mem → Prop} (w : wp_dunnagehelp_Own_byte_ l fill h Q) : CallF PG fn_dunnagehelp_Own_byte_ [.slice l.a l.len l.cap, .int .u8 fill] (.one (.leaf .sl)) h Q := callF_of PM ok_dunnagehelp_Own_byte_ (eq_dunnagehelp_Own_byte_ l fill h Q ▸ w)

/- 60: dunnage/batch.Read; join 5: []; join 7: [] -/
def tab_batch_Read : Tab := ⟨[], [(5, ⟨[], [14, 15, 16, 17, 18, 19, 20, 21, 22, 23, 24, 25, 26, 27, 28, 29, 30]⟩), (7, ⟨[], [31, 32, 33, 34, 35, 36, 37, 38, 39, 40, 41]⟩)], [(3, (chainT [(0, false), (1, false), (2, false), (3, false), (4, false), (5, false)] (.join ⟨[(28, .leaf .bool)], [20, 21, 22, 23, 24, 25, 26, 27]⟩ (chainT [(6, false), (7, false), (8, false), (9, false), (10, false), (11, false), (12, false), (13, false), (14, false)] .nil) .nil)))]⟩
def wp_batch_Read (b : Sl) (h : Mem) (Q : Int → Int → Sl → Int → Int → Int → Int → Int → Mem → Prop) : Prop :=
  New
    (Obj.cells
      #[Value.int IntKind.i64 0, Value.int IntKind.u64 0, Value.slice none 0 0, Value.int IntKind.u64 0, Value.int IntKind.i64 0, Value.int IntKind.i64 0, Value.int IntKind.i64 0]
      38)
    h fun (k1 : Nat) (h2 : Mem) =>
    CallF PG fn_slices_Clone_byte_byte_ [Value.slice b.a b.len b.cap] (Kd.one (Cmp.leaf Leaf.sl)) h2 fun (s3 : Sl) (h4 : Mem) =>
      New (Obj.cells #[Value.slice s3.a s3.len s3.cap, Value.int IntKind.i64 0, Value.int IntKind.i64 0] ty_batch_pen) h4 fun (k5 : Nat) (h6 : Mem) =>
        CallF PG fn_batch_pen_one [Value.pointer (some (Addr.mk k5 0 none))] (Kd.one (Cmp.leaf (Leaf.int IntKind.u8))) h6 fun (n7 : Int) (h8 : Mem) =>
          New
            (Obj.cells
              #[Value.int IntKind.i64 0, Value.int IntKind.u64 0, Value.slice none 0 0, Value.int IntKind.u64 0, Value.int IntKind.i64 0, Value.int IntKind.i64 0,
                Value.int IntKind.i64 0]
              38)
            h8 fun (k9 : Nat) (h10 : Mem) =>
            St PG ty_api_Record (Addr.mk k9 0 none)
              (Value.agg
                #[Value.int IntKind.i64 (IntKind.i64.wrap n7), Value.int IntKind.u64 0, Value.slice none 0 0, Value.int IntKind.u64 0, Value.int IntKind.i64 0,
                  Value.int IntKind.i64 0, Value.int IntKind.i64 0])
              h10 fun (h11 : Mem) =>
              ∃ (I12 : Mem → Prop),
                (∀ (j13 : Fr) (h14 : Mem),
                    I12 h14 →
                      ∃ (I15 : Mem → Prop),
                        (∀ (j16 : Fr) (h17 : Mem),
                            I15 h17 →
                              Ld PG ty_api_Errno ((Addr.mk k5 0 none).add 2) (Kd.one (Cmp.leaf (Leaf.int IntKind.i64))) h17 fun (n18 : Int) =>
                                Br (n18 == 0)
                                  (Ld PG ty_int ((Addr.mk k5 0 none).add 1) (Kd.one (Cmp.leaf (Leaf.int IntKind.i64))) h17 fun (n19 : Int) =>
                                    Ld PG ty_sl_uint8 (Addr.mk k5 0 none) (Kd.one (Cmp.leaf Leaf.sl)) h17 fun (s20 : Sl) =>
                                      Br (decide (n19 < (↑s20.len : Int)))
                                        (CallF PG fn_batch_pen_fail [Value.pointer (some (Addr.mk k5 0 none)), Value.int IntKind.i64 11] (Kd.tup []) h17 fun (h21 : Mem) =>
                                          Ld PG ty_api_Errno ((Addr.mk k5 0 none).add 2) (Kd.one (Cmp.leaf (Leaf.int IntKind.i64))) h21 fun (n22 : Int) =>
                                            Br (n22 != 0)
                                              (Ld PG ty_api_Errno ((Addr.mk k5 0 none).add 2) (Kd.one (Cmp.leaf (Leaf.int IntKind.i64))) h21 fun (n23 : Int) =>
                                                St PG ty_api_Record (Addr.mk k1 0 none)
                                                  (Value.agg
                                                    #[Value.int IntKind.i64 0, Value.int IntKind.u64 0, Value.slice none 0 0, Value.int IntKind.u64 0, Value.int IntKind.i64 0,
                                                      Value.int IntKind.i64 0, Value.int IntKind.i64 0])
                                                  h21 fun (h24 : Mem) =>
                                                  (Ld PG ty_api_Errno ((Addr.mk k5 0 none).add 2) (Kd.one (Cmp.leaf (Leaf.int IntKind.i64))) h24 fun (n25 : Int) =>
                                                      Value.int IntKind.i64 n25 = Value.int IntKind.i64 n23) ∧
                                                    Ld PG ty_api_Record (Addr.mk k1 0 none)
                                                      (Kd.one
                                                        (Cmp.agg
                                                          [Leaf.int IntKind.i64, Leaf.int IntKind.u64, Leaf.sl, Leaf.int IntKind.u64, Leaf.int IntKind.i64, Leaf.int IntKind.i64,
                                                            Leaf.int IntKind.i64]))
                                                      h24 fun (n26 n27 : Int) (s28 : Sl) (n29 n30 n31 n32 : Int) => Q n26 n27 (Sl.mk s28.a s28.len s28.cap) n29 n30 n31 n32 n23 h24)
                                              (Ld PG ty_api_Record (Addr.mk k9 0 none)
                                                (Kd.one
                                                  (Cmp.agg
                                                    [Leaf.int IntKind.i64, Leaf.int IntKind.u64, Leaf.sl, Leaf.int IntKind.u64, Leaf.int IntKind.i64, Leaf.int IntKind.i64,
                                                      Leaf.int IntKind.i64]))
                                                h21 fun (n33 n34 : Int) (s35 : Sl) (n36 n37 n38 n39 : Int) =>
                                                St PG ty_api_Record (Addr.mk k1 0 none)
                                                  (Value.agg
                                                    #[Value.int IntKind.i64 n33, Value.int IntKind.u64 n34, Value.slice s35.a s35.len s35.cap, Value.int IntKind.u64 n36,
                                                      Value.int IntKind.i64 n37, Value.int IntKind.i64 n38, Value.int IntKind.i64 n39])
                                                  h21 fun (h40 : Mem) =>
                                                  Ld PG ty_api_Record (Addr.mk k1 0 none)
                                                    (Kd.one
                                                      (Cmp.agg
                                                        [Leaf.int IntKind.i64, Leaf.int IntKind.u64, Leaf.sl, Leaf.int IntKind.u64, Leaf.int IntKind.i64, Leaf.int IntKind.i64,
                                                          Leaf.int IntKind.i64]))
                                                    h40 fun (n41 n42 : Int) (s43 : Sl) (n44 n45 n46 n47 : Int) => Q n41 n42 (Sl.mk s43.a s43.len s43.cap) n44 n45 n46 n47 0 h40))
                                        (Ld PG ty_api_Record (Addr.mk k9 0 none)
                                          (Kd.one
                                            (Cmp.agg
                                              [Leaf.int IntKind.i64, Leaf.int IntKind.u64, Leaf.sl, Leaf.int IntKind.u64, Leaf.int IntKind.i64, Leaf.int IntKind.i64,
                                                Leaf.int IntKind.i64]))
                                          h17 fun (n48 n49 : Int) (s50 : Sl) (n51 n52 n53 n54 : Int) =>
                                          CallF PG fn_batch_May 
                                            [Value.agg
                                                #[Value.int IntKind.i64 n48, Value.int IntKind.u64 n49, Value.slice s50.a s50.len s50.cap, Value.int IntKind.u64 n51,
                                                  Value.int IntKind.i64 n52, Value.int IntKind.i64 n53, Value.int IntKind.i64 n54]]
                                            (Kd.one (Cmp.leaf Leaf.bool)) h17 fun (b55 : Bool) (h56 : Mem) =>
                                            Br (!b55)
                                              (CallF PG fn_batch_pen_fail [Value.pointer (some (Addr.mk k5 0 none)), Value.int IntKind.i64 11] (Kd.tup []) h56 fun (h57 : Mem) =>
                                                Ld PG ty_api_Errno ((Addr.mk k5 0 none).add 2) (Kd.one (Cmp.leaf (Leaf.int IntKind.i64))) h57 fun (n58 : Int) =>
                                                  Br (n58 != 0)
                                                    (Ld PG ty_api_Errno ((Addr.mk k5 0 none).add 2) (Kd.one (Cmp.leaf (Leaf.int IntKind.i64))) h57 fun (n59 : Int) =>
                                                      St PG ty_api_Record (Addr.mk k1 0 none)
                                                        (Value.agg
                                                          #[Value.int IntKind.i64 0, Value.int IntKind.u64 0, Value.slice none 0 0, Value.int IntKind.u64 0, Value.int IntKind.i64 0,
                                                            Value.int IntKind.i64 0, Value.int IntKind.i64 0])
                                                        h57 fun (h60 : Mem) =>
                                                        (Ld PG ty_api_Errno ((Addr.mk k5 0 none).add 2) (Kd.one (Cmp.leaf (Leaf.int IntKind.i64))) h60 fun (n61 : Int) =>
                                                            Value.int IntKind.i64 n61 = Value.int IntKind.i64 n59) ∧
                                                          Ld PG ty_api_Record (Addr.mk k1 0 none)
                                                            (Kd.one
                                                              (Cmp.agg
                                                                [Leaf.int IntKind.i64, Leaf.int IntKind.u64, Leaf.sl, Leaf.int IntKind.u64, Leaf.int IntKind.i64,
                                                                  Leaf.int IntKind.i64, Leaf.int IntKind.i64]))
                                                            h60 fun (n62 n63 : Int) (s64 : Sl) (n65 n66 n67 n68 : Int) =>
                                                            Q n62 n63 (Sl.mk s64.a s64.len s64.cap) n65 n66 n67 n68 n59 h60)
                                                    (Ld PG ty_api_Record (Addr.mk k9 0 none)
                                                      (Kd.one
                                                        (Cmp.agg
                                                          [Leaf.int IntKind.i64, Leaf.int IntKind.u64, Leaf.sl, Leaf.int IntKind.u64, Leaf.int IntKind.i64, Leaf.int IntKind.i64,
                                                            Leaf.int IntKind.i64]))
                                                      h57 fun (n69 n70 : Int) (s71 : Sl) (n72 n73 n74 n75 : Int) =>
                                                      St PG ty_api_Record (Addr.mk k1 0 none)
                                                        (Value.agg
                                                          #[Value.int IntKind.i64 n69, Value.int IntKind.u64 n70, Value.slice s71.a s71.len s71.cap, Value.int IntKind.u64 n72,
                                                            Value.int IntKind.i64 n73, Value.int IntKind.i64 n74, Value.int IntKind.i64 n75])
                                                        h57 fun (h76 : Mem) =>
                                                        Ld PG ty_api_Record (Addr.mk k1 0 none)
                                                          (Kd.one
                                                            (Cmp.agg
                                                              [Leaf.int IntKind.i64, Leaf.int IntKind.u64, Leaf.sl, Leaf.int IntKind.u64, Leaf.int IntKind.i64, Leaf.int IntKind.i64,
                                                                Leaf.int IntKind.i64]))
                                                          h76 fun (n77 n78 : Int) (s79 : Sl) (n80 n81 n82 n83 : Int) =>
                                                          Q n77 n78 (Sl.mk s79.a s79.len s79.cap) n80 n81 n82 n83 0 h76))
                                              (Ld PG ty_api_Errno ((Addr.mk k5 0 none).add 2) (Kd.one (Cmp.leaf (Leaf.int IntKind.i64))) h56 fun (n84 : Int) =>
                                                Br (n84 != 0)
                                                  (Ld PG ty_api_Errno ((Addr.mk k5 0 none).add 2) (Kd.one (Cmp.leaf (Leaf.int IntKind.i64))) h56 fun (n85 : Int) =>
                                                    St PG ty_api_Record (Addr.mk k1 0 none)
                                                      (Value.agg
                                                        #[Value.int IntKind.i64 0, Value.int IntKind.u64 0, Value.slice none 0 0, Value.int IntKind.u64 0, Value.int IntKind.i64 0,
                                                          Value.int IntKind.i64 0, Value.int IntKind.i64 0])
                                                      h56 fun (h86 : Mem) =>
                                                      (Ld PG ty_api_Errno ((Addr.mk k5 0 none).add 2) (Kd.one (Cmp.leaf (Leaf.int IntKind.i64))) h86 fun (n87 : Int) =>
                                                          Value.int IntKind.i64 n87 = Value.int IntKind.i64 n85) ∧
                                                        Ld PG ty_api_Record (Addr.mk k1 0 none)
                                                          (Kd.one
                                                            (Cmp.agg
                                                              [Leaf.int IntKind.i64, Leaf.int IntKind.u64, Leaf.sl, Leaf.int IntKind.u64, Leaf.int IntKind.i64, Leaf.int IntKind.i64,
                                                                Leaf.int IntKind.i64]))
                                                          h86 fun (n88 n89 : Int) (s90 : Sl) (n91 n92 n93 n94 : Int) =>
                                                          Q n88 n89 (Sl.mk s90.a s90.len s90.cap) n91 n92 n93 n94 n85 h86)
                                                  (Ld PG ty_api_Record (Addr.mk k9 0 none)
                                                    (Kd.one
                                                      (Cmp.agg
                                                        [Leaf.int IntKind.i64, Leaf.int IntKind.u64, Leaf.sl, Leaf.int IntKind.u64, Leaf.int IntKind.i64, Leaf.int IntKind.i64,
                                                          Leaf.int IntKind.i64]))
                                                    h56 fun (n95 n96 : Int) (s97 : Sl) (n98 n99 n100 n101 : Int) =>
                                                    St PG ty_api_Record (Addr.mk k1 0 none)
                                                      (Value.agg
                                                        #[Value.int IntKind.i64 n95, Value.int IntKind.u64 n96, Value.slice s97.a s97.len s97.cap, Value.int IntKind.u64 n98,
                                                          Value.int IntKind.i64 n99, Value.int IntKind.i64 n100, Value.int IntKind.i64 n101])
                                                      h56 fun (h102 : Mem) =>
                                                      Ld PG ty_api_Record (Addr.mk k1 0 none)
                                                        (Kd.one
                                                          (Cmp.agg
                                                            [Leaf.int IntKind.i64, Leaf.int IntKind.u64, Leaf.sl, Leaf.int IntKind.u64, Leaf.int IntKind.i64, Leaf.int IntKind.i64,
                                                              Leaf.int IntKind.i64]))
                                                        h102 fun (n103 n104 : Int) (s105 : Sl) (n106 n107 n108 n109 : Int) =>
                                                        Q n103 n104 (Sl.mk s105.a s105.len s105.cap) n106 n107 n108 n109 0 h102))))
                                  (Ld PG ty_api_Errno ((Addr.mk k5 0 none).add 2) (Kd.one (Cmp.leaf (Leaf.int IntKind.i64))) h17 fun (n110 : Int) =>
                                    Br (n110 != 0)
                                      (Ld PG ty_api_Errno ((Addr.mk k5 0 none).add 2) (Kd.one (Cmp.leaf (Leaf.int IntKind.i64))) h17 fun (n111 : Int) =>
                                        St PG ty_api_Record (Addr.mk k1 0 none)
                                          (Value.agg
                                            #[Value.int IntKind.i64 0, Value.int IntKind.u64 0, Value.slice none 0 0, Value.int IntKind.u64 0, Value.int IntKind.i64 0,
                                              Value.int IntKind.i64 0, Value.int IntKind.i64 0])
                                          h17 fun (h112 : Mem) =>
                                          (Ld PG ty_api_Errno ((Addr.mk k5 0 none).add 2) (Kd.one (Cmp.leaf (Leaf.int IntKind.i64))) h112 fun (n113 : Int) =>
                                              Value.int IntKind.i64 n113 = Value.int IntKind.i64 n111) ∧
                                            Ld PG ty_api_Record (Addr.mk k1 0 none)
                                              (Kd.one
                                                (Cmp.agg
                                                  [Leaf.int IntKind.i64, Leaf.int IntKind.u64, Leaf.sl, Leaf.int IntKind.u64, Leaf.int IntKind.i64, Leaf.int IntKind.i64,
                                                    Leaf.int IntKind.i64]))
                                              h112 fun (n114 n115 : Int) (s116 : Sl) (n117 n118 n119 n120 : Int) =>
                                              Q n114 n115 (Sl.mk s116.a s116.len s116.cap) n117 n118 n119 n120 n111 h112)
                                      (Ld PG ty_api_Record (Addr.mk k9 0 none)
                                        (Kd.one
                                          (Cmp.agg
                                            [Leaf.int IntKind.i64, Leaf.int IntKind.u64, Leaf.sl, Leaf.int IntKind.u64, Leaf.int IntKind.i64, Leaf.int IntKind.i64,
                                              Leaf.int IntKind.i64]))
                                        h17 fun (n121 n122 : Int) (s123 : Sl) (n124 n125 n126 n127 : Int) =>
                                        St PG ty_api_Record (Addr.mk k1 0 none)
                                          (Value.agg
                                            #[Value.int IntKind.i64 n121, Value.int IntKind.u64 n122, Value.slice s123.a s123.len s123.cap, Value.int IntKind.u64 n124,
                                              Value.int IntKind.i64 n125, Value.int IntKind.i64 n126, Value.int IntKind.i64 n127])
                                          h17 fun (h128 : Mem) =>
                                          Ld PG ty_api_Record (Addr.mk k1 0 none)
                                            (Kd.one
                                              (Cmp.agg
                                                [Leaf.int IntKind.i64, Leaf.int IntKind.u64, Leaf.sl, Leaf.int IntKind.u64, Leaf.int IntKind.i64, Leaf.int IntKind.i64,
                                                  Leaf.int IntKind.i64]))
                                            h128 fun (n129 n130 : Int) (s131 : Sl) (n132 n133 n134 n135 : Int) =>
                                            Q n129 n130 (Sl.mk s131.a s131.len s131.cap) n132 n133 n134 n135 0 h128))) ∧
                          Ld PG ty_api_Errno ((Addr.mk k5 0 none).add 2) (Kd.one (Cmp.leaf (Leaf.int IntKind.i64))) h14 fun (n136 : Int) =>
                            Br (n136 == 0)
                              (Ld PG ty_int (Addr.mk k9 0 none) (Kd.one (Cmp.leaf (Leaf.int IntKind.i64))) h14 fun (n137 : Int) =>
                                CallF PG fn_batch_readers [] (Kd.one (Cmp.agg [Leaf.raw, Leaf.raw, Leaf.raw])) h14 fun (v138 v139 v140 : Value) (h141 : Mem) =>
                                  (Ld PG ty_int (Addr.mk k9 0 none) (Kd.one (Cmp.leaf (Leaf.int IntKind.i64))) h141 fun (n142 : Int) =>
                                      Value.int IntKind.i64 n142 = Value.int IntKind.i64 n137) ∧
                                    PureT PG (Instr.index ty_3_func_ptr_batch_pen_ptr_api_Record (Value.agg #[v138, v139, v140]) (Value.int IntKind.i64 n137)) (Kd.one (Cmp.leaf Leaf.raw)) fun (v143 : Value) =>
                                      CallV PG v143 [Value.pointer (some (Addr.mk k5 0 none)), Value.pointer (some (Addr.mk k9 0 none))] (Kd.tup []) h141 fun (h144 : Mem) =>
                                        I15 h144)
                              (I15 h14)) ∧
                  Ld PG ty_api_Errno ((Addr.mk k5 0 none).add 2) (Kd.one (Cmp.leaf (Leaf.int IntKind.i64))) h11 fun (n145 : Int) =>
                    ∃ (I146 : Bool → Mem → Prop),
                      (∀ (j147 : Fr) (b148 : Bool) (h149 : Mem),
                          I146 b148 h149 →
                            Br b148 (CallF PG fn_batch_pen_fail [Value.pointer (some (Addr.mk k5 0 none)), Value.int IntKind.i64 11] (Kd.tup []) h149 fun (h150 : Mem) => I12 h150)
                              (I12 h149)) ∧
                        Br (n145 == 0)
                          (Ld PG ty_int (Addr.mk k9 0 none) (Kd.one (Cmp.leaf (Leaf.int IntKind.i64))) h11 fun (n151 : Int) =>
                            Br (decide (n151 < 1)) (I146 true h11)
                              (Ld PG ty_int (Addr.mk k9 0 none) (Kd.one (Cmp.leaf (Leaf.int IntKind.i64))) h11 fun (n152 : Int) => I146 (decide (n152 > 2)) h11))
                          (I146 false h11)
theorem eq_batch_Read (b : Sl) (h : Mem) (Q : Int → Int → Sl → Int → Int → Int → Int → Int → Mem → Prop) : wp_batch_Read b h Q = evFn PG fn_batch_Read tab_batch_Read [.slice b.a b.len b.cap] (.tup [(.agg [(.int .i64), (.int .u64), .sl, (.int .u64), (.int .i64), (.int .i64), (.int .i64)]), (.leaf (.int .i64))]) h Q := by kernel_rfl
theorem ok_batch_Read : okF PG fn_batch_Read tab_batch_Read = true := by kernel_rfl
theorem call_batch_Read {b : Sl} {h : Mem} {Q : Int → Int → Sl → Int → Int → Int → Int → Int → Mem → Prop} (w : wp_batch_Read b h Q) : CallF PG fn_batch_Read [.slice b.a b.len b.cap] (.tup [(.agg [(.int .i64), (.int .u64), .sl, (.int .u64), (.int .i64), (.int .i64), (.int .i64)]), (.leaf (.int .i64))]) h Q := callF_of PM ok_batch_Read (eq_batch_Read b h Q ▸ w)

/- 61: dunnage/dunnageref10.Read; join 14: []; loop 9: [i] -/
def tab_dunnageref10_Read : Tab := ⟨[(9, ⟨[(7, .leaf (.int .i64))], [33, 34, 35, 36, 37, 38, 39, 40, 41, 42, 43, 44, 45, 46, 47, 48, 49, 50, 51]⟩)], [(14, ⟨[], [6, 7, 15, 16, 17, 18, 19, 20, 21, 22, 23, 24, 25, 26, 27, 28, 29, 30, 31, 32, 33, 34, 35, 36, 37, 38, 39, 40, 41, 42, 43, 44, 45, 46, 47, 48, 49, 50, 51, 52, 53, 54, 55, 56, 57, 58, 59, 60, 61, 62, 63, 64, 65]⟩)], []⟩
def wp_dunnageref10_Read (b : Sl) (h : Mem) (Q : Int → Int → Sl → Int → Int → Int → Int → Int → Mem → Prop) : Prop :=
  New
    (Obj.cells
      #[Value.int IntKind.i64 0, Value.int IntKind.u64 0, Value.slice none 0 0, Value.int IntKind.u64 0, Value.int IntKind.i64 0, Value.int IntKind.i64 0, Value.int IntKind.i64 0]
      38)
    h fun (k1 : Nat) (h2 : Mem) =>
    New (Obj.cells #[Value.slice b.a b.len b.cap, Value.int IntKind.i64 0, Value.int IntKind.i64 0] ty_dunnageref01_Reader) h2 fun (k3 : Nat) (h4 : Mem) =>
      CallF PG fn_dunnageref01_Reader_Byte [Value.pointer (some (Addr.mk k3 0 none))] (Kd.one (Cmp.leaf (Leaf.int IntKind.u8))) h4 fun (n5 : Int) (h6 : Mem) =>
        New
          (Obj.cells
            #[Value.int IntKind.i64 0, Value.int IntKind.u64 0, Value.slice none 0 0, Value.int IntKind.u64 0, Value.int IntKind.i64 0, Value.int IntKind.i64 0,
              Value.int IntKind.i64 0]
            38)
          h6 fun (k7 : Nat) (h8 : Mem) =>
          St PG ty_api_Record (Addr.mk k7 0 none)
            (Value.agg
              #[Value.int IntKind.i64 (IntKind.i64.wrap n5), Value.int IntKind.u64 0, Value.slice none 0 0, Value.int IntKind.u64 0, Value.int IntKind.i64 0, Value.int IntKind.i64 0,
                Value.int IntKind.i64 0])
            h8 fun (h9 : Mem) =>
            ∃ (I10 : Mem → Prop),
              (∀ (j11 : Fr) (h12 : Mem),
                  I10 h12 →
                    Ld PG ty_api_Errno ((Addr.mk k3 0 none).add 2) (Kd.one (Cmp.leaf (Leaf.int IntKind.i64))) h12 fun (n13 : Int) =>
                      Br (n13 != 0)
                        (Ld PG ty_api_Errno ((Addr.mk k3 0 none).add 2) (Kd.one (Cmp.leaf (Leaf.int IntKind.i64))) h12 fun (n14 : Int) =>
                          St PG ty_api_Record (Addr.mk k1 0 none)
                            (Value.agg
                              #[Value.int IntKind.i64 0, Value.int IntKind.u64 0, Value.slice none 0 0, Value.int IntKind.u64 0, Value.int IntKind.i64 0, Value.int IntKind.i64 0,
                                Value.int IntKind.i64 0])
                            h12 fun (h15 : Mem) =>
                            (Ld PG ty_api_Errno ((Addr.mk k3 0 none).add 2) (Kd.one (Cmp.leaf (Leaf.int IntKind.i64))) h15 fun (n16 : Int) =>
                                Value.int IntKind.i64 n16 = Value.int IntKind.i64 n14) ∧
                              Ld PG ty_api_Record (Addr.mk k1 0 none)
                                (Kd.one
                                  (Cmp.agg
                                    [Leaf.int IntKind.i64, Leaf.int IntKind.u64, Leaf.sl, Leaf.int IntKind.u64, Leaf.int IntKind.i64, Leaf.int IntKind.i64, Leaf.int IntKind.i64]))
                                h15 fun (n17 n18 : Int) (s19 : Sl) (n20 n21 n22 n23 : Int) => Q n17 n18 (Sl.mk s19.a s19.len s19.cap) n20 n21 n22 n23 n14 h15)
                        (CallF PG fn_dunnageref01_Reader_Left [Value.pointer (some (Addr.mk k3 0 none))] (Kd.one (Cmp.leaf (Leaf.int IntKind.i64))) h12 fun (n24 : Int) (h25 : Mem) =>
                          Br (decide (n24 > 0))
                            (St PG ty_api_Record (Addr.mk k1 0 none)
                              (Value.agg
                                #[Value.int IntKind.i64 0, Value.int IntKind.u64 0, Value.slice none 0 0, Value.int IntKind.u64 0, Value.int IntKind.i64 0, Value.int IntKind.i64 0,
                                  Value.int IntKind.i64 0])
                              h25 fun (h26 : Mem) =>
                              Ld PG ty_api_Record (Addr.mk k1 0 none)
                                (Kd.one
                                  (Cmp.agg
                                    [Leaf.int IntKind.i64, Leaf.int IntKind.u64, Leaf.sl, Leaf.int IntKind.u64, Leaf.int IntKind.i64, Leaf.int IntKind.i64, Leaf.int IntKind.i64]))
                                h26 fun (n27 n28 : Int) (s29 : Sl) (n30 n31 n32 n33 : Int) => Q n27 n28 (Sl.mk s29.a s29.len s29.cap) n30 n31 n32 n33 11 h26)
                            (Ld PG ty_api_Record (Addr.mk k7 0 none)
                              (Kd.one
                                (Cmp.agg
                                  [Leaf.int IntKind.i64, Leaf.int IntKind.u64, Leaf.sl, Leaf.int IntKind.u64, Leaf.int IntKind.i64, Leaf.int IntKind.i64, Leaf.int IntKind.i64]))
                              h25 fun (n34 n35 : Int) (s36 : Sl) (n37 n38 n39 n40 : Int) =>
                              CallF PG fn_dunnageref10_May 
                                [Value.agg
                                    #[Value.int IntKind.i64 n34, Value.int IntKind.u64 n35, Value.slice s36.a s36.len s36.cap, Value.int IntKind.u64 n37, Value.int IntKind.i64 n38,
                                      Value.int IntKind.i64 n39, Value.int IntKind.i64 n40]]
                                (Kd.one (Cmp.leaf Leaf.bool)) h25 fun (b41 : Bool) (h42 : Mem) =>
                                Br (!b41)
                                  (St PG ty_api_Record (Addr.mk k1 0 none)
                                    (Value.agg
                                      #[Value.int IntKind.i64 0, Value.int IntKind.u64 0, Value.slice none 0 0, Value.int IntKind.u64 0, Value.int IntKind.i64 0,
                                        Value.int IntKind.i64 0, Value.int IntKind.i64 0])
                                    h42 fun (h43 : Mem) =>
                                    Ld PG ty_api_Record (Addr.mk k1 0 none)
                                      (Kd.one
                                        (Cmp.agg
                                          [Leaf.int IntKind.i64, Leaf.int IntKind.u64, Leaf.sl, Leaf.int IntKind.u64, Leaf.int IntKind.i64, Leaf.int IntKind.i64,
                                            Leaf.int IntKind.i64]))
                                      h43 fun (n44 n45 : Int) (s46 : Sl) (n47 n48 n49 n50 : Int) => Q n44 n45 (Sl.mk s46.a s46.len s46.cap) n47 n48 n49 n50 11 h43)
                                  (Ld PG ty_api_Record (Addr.mk k7 0 none)
                                    (Kd.one
                                      (Cmp.agg
                                        [Leaf.int IntKind.i64, Leaf.int IntKind.u64, Leaf.sl, Leaf.int IntKind.u64, Leaf.int IntKind.i64, Leaf.int IntKind.i64,
                                          Leaf.int IntKind.i64]))
                                    h42 fun (n51 n52 : Int) (s53 : Sl) (n54 n55 n56 n57 : Int) =>
                                    St PG ty_api_Record (Addr.mk k1 0 none)
                                      (Value.agg
                                        #[Value.int IntKind.i64 n51, Value.int IntKind.u64 n52, Value.slice s53.a s53.len s53.cap, Value.int IntKind.u64 n54,
                                          Value.int IntKind.i64 n55, Value.int IntKind.i64 n56, Value.int IntKind.i64 n57])
                                      h42 fun (h58 : Mem) =>
                                      Ld PG ty_api_Record (Addr.mk k1 0 none)
                                        (Kd.one
                                          (Cmp.agg
                                            [Leaf.int IntKind.i64, Leaf.int IntKind.u64, Leaf.sl, Leaf.int IntKind.u64, Leaf.int IntKind.i64, Leaf.int IntKind.i64,
                                              Leaf.int IntKind.i64]))
                                        h58 fun (n59 n60 : Int) (s61 : Sl) (n62 n63 n64 n65 : Int) => Q n59 n60 (Sl.mk s61.a s61.len s61.cap) n62 n63 n64 n65 0 h58)))) ∧
                Ld PG ty_api_Errno ((Addr.mk k3 0 none).add 2) (Kd.one (Cmp.leaf (Leaf.int IntKind.i64))) h9 fun (n66 : Int) =>
                  Br (n66 != 0) (I10 h9)
                    (Ld PG ty_int (Addr.mk k7 0 none) (Kd.one (Cmp.leaf (Leaf.int IntKind.i64))) h9 fun (n67 : Int) =>
                      Br (n67 == 1)
                        (CallF PG fn_dunnageref01_Reader_Num [Value.pointer (some (Addr.mk k3 0 none))] (Kd.one (Cmp.leaf (Leaf.int IntKind.u64))) h9 fun (n68 : Int) (h69 : Mem) =>
                          St PG ty_uint64 ((Addr.mk k7 0 none).add 1) (Value.int IntKind.u64 n68) h69 fun (h70 : Mem) =>
                            CallF PG fn_dunnageref01_Reader_Most [Value.pointer (some (Addr.mk k3 0 none)), Value.int IntKind.u64 32] (Kd.one (Cmp.leaf (Leaf.int IntKind.i64))) h70
                              fun (n71 : Int) (h72 : Mem) =>
                              ∃ (I73 : Int → Mem → Prop),
                                ∃ (I74 : Int → Mem → Nat),
                                  I73 0 h72 ∧
                                    ∀ (j75 : Fr) (n76 : Int) (h77 : Mem),
                                      I73 n76 h77 →
                                        Br (decide (n76 < n71))
                                          (Ld PG ty_api_Errno ((Addr.mk k3 0 none).add 2) (Kd.one (Cmp.leaf (Leaf.int IntKind.i64))) h77 fun (n78 : Int) =>
                                            Br (n78 == 0)
                                              (Ld PG ty_sl_api_Change ((Addr.mk k7 0 none).add 2) (Kd.one (Cmp.leaf Leaf.sl)) h77 fun (s79 : Sl) =>
                                                CallF PG fn_dunnageref10_change [Value.pointer (some (Addr.mk k3 0 none))]
                                                  (Kd.one (Cmp.agg [Leaf.str, Leaf.int IntKind.u64, Leaf.int IntKind.i64, Leaf.int IntKind.i64, Leaf.bool])) h77
                                                  fun (t80 : ByteArray) (n81 n82 n83 : Int) (b84 : Bool) (h85 : Mem) =>
                                                  (Ld PG ty_sl_api_Change ((Addr.mk k7 0 none).add 2) (Kd.one (Cmp.leaf Leaf.sl)) h85 fun (s86 : Sl) =>
                                                      Value.slice s86.a s86.len s86.cap = Value.slice s79.a s79.len s79.cap) ∧
                                                    New
                                                      (Obj.cells #[Value.string t80, Value.int IntKind.u64 n81, Value.int IntKind.i64 n82, Value.int IntKind.i64 n83, Value.bool b84]
                                                        43)
                                                      h85 fun (k87 : Nat) (h88 : Mem) =>
                                                      (Ld PG ty_sl_api_Change ((Addr.mk k7 0 none).add 2) (Kd.one (Cmp.leaf Leaf.sl)) h88 fun (s89 : Sl) =>
                                                          Value.slice s89.a s89.len s89.cap = Value.slice s79.a s79.len s79.cap) ∧
                                                        PrimT PG
                                                          (Builtin.append_ #[ty_sl_api_Change, ty_sl_api_Change] ty_sl_api_Change #[Value.slice s79.a s79.len s79.cap, Value.slice (some (Addr.mk k87 0 none)) 1 1])
                                                          (Kd.one (Cmp.leaf Leaf.sl)) h88 fun (s90 : Sl) (h91 : Mem) =>
                                                          St PG ty_sl_api_Change ((Addr.mk k7 0 none).add 2) (Value.slice s90.a s90.len s90.cap) h91 fun (h92 : Mem) =>
                                                            I73 (IntKind.i64.wrap (n76 + 1)) h92 ∧ I74 (IntKind.i64.wrap (n76 + 1)) h92 < I74 n76 h77)
                                              (I10 h77))
                                          (I10 h77))
                        (Ld PG ty_int (Addr.mk k7 0 none) (Kd.one (Cmp.leaf (Leaf.int IntKind.i64))) h9 fun (n93 : Int) =>
                          Br (n93 == 2)
                            (CallF PG fn_dunnageref01_Reader_Num [Value.pointer (some (Addr.mk k3 0 none))] (Kd.one (Cmp.leaf (Leaf.int IntKind.u64))) h9 fun (n94 : Int) (h95 : Mem) =>
                              CallF PG fn_dunnageref01_Reader_Most [Value.pointer (some (Addr.mk k3 0 none)), Value.int IntKind.u64 4611686018427387904] (Kd.one (Cmp.leaf (Leaf.int IntKind.i64))) h95
                                fun (n96 : Int) (h97 : Mem) =>
                                CallF PG fn_dunnageref01_Reader_Most [Value.pointer (some (Addr.mk k3 0 none)), Value.int IntKind.u64 4611686018427387904] (Kd.one (Cmp.leaf (Leaf.int IntKind.i64)))
                                  h97 fun (n98 : Int) (h99 : Mem) =>
                                  CallF PG fn_dunnageref01_Reader_Most [Value.pointer (some (Addr.mk k3 0 none)), Value.int IntKind.u64 4611686018427387904] (Kd.one (Cmp.leaf (Leaf.int IntKind.i64)))
                                    h99 fun (n100 : Int) (h101 : Mem) =>
                                    St PG ty_api_Move ((Addr.mk k7 0 none).add 3)
                                      (Value.agg #[Value.int IntKind.u64 n94, Value.int IntKind.i64 n96, Value.int IntKind.i64 n98, Value.int IntKind.i64 n100]) h101
                                      fun (h102 : Mem) => I10 h102)
                            (St PG ty_api_Errno ((Addr.mk k3 0 none).add 2) (Value.int IntKind.i64 11) h9 fun (h103 : Mem) => I10 h103)))
theorem eq_dunnageref10_Read (b : Sl) (h : Mem) (Q : Int → Int → Sl → Int → Int → Int → Int → Int → Mem → Prop) : wp_dunnageref10_Read b h Q = evFn PG fn_dunnageref10_Read tab_dunnageref10_Read [.slice b.a b.len b.cap] (.tup [(.agg [(.int .i64), (.int .u64), .sl, (.int .u64), (.int .i64), (.int .i64), (.int .i64)]), (.leaf (.int .i64))]) h Q := by kernel_rfl
theorem ok_dunnageref10_Read : okF PG fn_dunnageref10_Read tab_dunnageref10_Read = true := by kernel_rfl
theorem call_dunnageref10_Read {b : Sl} {h : Mem} {Q : Int → Int → Sl → Int → Int → Int → Int → Int → Mem → Prop} (w : wp_dunnageref10_Read b h Q) : CallF PG fn_dunnageref10_Read [.slice b.a b.len b.cap] (.tup [(.agg [(.int .i64), (.int .u64), .sl, (.int .u64), (.int .i64), (.int .i64), (.int .i64)]), (.leaf (.int .i64))]) h Q := callF_of PM ok_dunnageref10_Read (eq_dunnageref10_Read b h Q ▸ w)

/- 62: dunnage/dunnagehelp.Record -/
def tab_dunnagehelp_Record : Tab := ⟨[], [], []⟩
def wp_dunnagehelp_Record (a_0 : Int) (a_1 : Int) (a_2 : Sl) (a_3 : Int) (a_4 : Int) (a_5 : Int) (a_6 : Int) (b_0 : Int) (b_1 : Int) (b_2 : Sl) (b_3 : Int) (b_4 : Int) (b_5 : Int) (b_6 : Int) (h : Mem) (Q : Bool → Mem → Prop) : Prop :=
  New
    (Obj.cells
      #[Value.int IntKind.i64 a_0, Value.int IntKind.u64 a_1, Value.slice a_2.a a_2.len a_2.cap, Value.int IntKind.u64 a_3, Value.int IntKind.i64 a_4, Value.int IntKind.i64 a_5,
        Value.int IntKind.i64 a_6]
      38)
    h fun (k1 : Nat) (h2 : Mem) =>
    New
      (Obj.cells
        #[Value.int IntKind.i64 b_0, Value.int IntKind.u64 b_1, Value.slice b_2.a b_2.len b_2.cap, Value.int IntKind.u64 b_3, Value.int IntKind.i64 b_4, Value.int IntKind.i64 b_5,
          Value.int IntKind.i64 b_6]
        38)
      h2 fun (k3 : Nat) (h4 : Mem) =>
      Ld PG ty_int (Addr.mk k1 0 none) (Kd.one (Cmp.leaf (Leaf.int IntKind.i64))) h4 fun (n5 : Int) =>
        Ld PG ty_int (Addr.mk k3 0 none) (Kd.one (Cmp.leaf (Leaf.int IntKind.i64))) h4 fun (n6 : Int) =>
          Br (n5 == n6)
            (Ld PG ty_uint64 ((Addr.mk k1 0 none).add 1) (Kd.one (Cmp.leaf (Leaf.int IntKind.u64))) h4 fun (n7 : Int) =>
              Ld PG ty_uint64 ((Addr.mk k3 0 none).add 1) (Kd.one (Cmp.leaf (Leaf.int IntKind.u64))) h4 fun (n8 : Int) =>
                Br (n7 == n8)
                  (Ld PG ty_sl_api_Change ((Addr.mk k1 0 none).add 2) (Kd.one (Cmp.leaf Leaf.sl)) h4 fun (s9 : Sl) =>
                    Ld PG ty_sl_api_Change ((Addr.mk k3 0 none).add 2) (Kd.one (Cmp.leaf Leaf.sl)) h4 fun (s10 : Sl) =>
                      CallF PG fn_dunnagehelp_Plain_api_Change_ [Value.slice s9.a s9.len s9.cap, Value.slice s10.a s10.len s10.cap] (Kd.one (Cmp.leaf Leaf.bool)) h4 fun (b11 : Bool) (h12 : Mem) =>
                        Br b11
                          (Ld PG ty_api_Move ((Addr.mk k1 0 none).add 3) (Kd.one (Cmp.agg [Leaf.int IntKind.u64, Leaf.int IntKind.i64, Leaf.int IntKind.i64, Leaf.int IntKind.i64])) h12
                            fun (n13 n14 n15 n16 : Int) =>
                            Ld PG ty_api_Move ((Addr.mk k3 0 none).add 3) (Kd.one (Cmp.agg [Leaf.int IntKind.u64, Leaf.int IntKind.i64, Leaf.int IntKind.i64, Leaf.int IntKind.i64])) h12
                              fun (n17 n18 n19 n20 : Int) =>
                              EqP PG BinOp.eql ty_api_Move (Value.agg #[Value.int IntKind.u64 n13, Value.int IntKind.i64 n14, Value.int IntKind.i64 n15, Value.int IntKind.i64 n16])
                                (Value.agg #[Value.int IntKind.u64 n17, Value.int IntKind.i64 n18, Value.int IntKind.i64 n19, Value.int IntKind.i64 n20]) fun (b21 : Bool) =>
                                Q b21 h12)
                          (Q false h12))
                  (Q false h4))
            (Q false h4)
theorem eq_dunnagehelp_Record (a_0 : Int) (a_1 : Int) (a_2 : Sl) (a_3 : Int) (a_4 : Int) (a_5 : Int) (a_6 : Int) (b_0 : Int) (b_1 : Int) (b_2 : Sl) (b_3 : Int) (b_4 : Int) (b_5 : Int) (b_6 : Int) (h : Mem) (Q : Bool → Mem → Prop) : wp_dunnagehelp_Record a_0 a_1 a_2 a_3 a_4 a_5 a_6 b_0 b_1 b_2 b_3 b_4 b_5 b_6 h Q = evFn PG fn_dunnagehelp_Record tab_dunnagehelp_Record [.agg #[.int .i64 a_0, .int .u64 a_1, .slice a_2.a a_2.len a_2.cap, .int .u64 a_3, .int .i64 a_4, .int .i64 a_5, .int .i64 a_6], .agg #[.int .i64 b_0, .int .u64 b_1, .slice b_2.a b_2.len b_2.cap, .int .u64 b_3, .int .i64 b_4, .int .i64 b_5, .int .i64 b_6]] (.one (.leaf .bool)) h Q := by kernel_rfl
theorem ok_dunnagehelp_Record : okF PG fn_dunnagehelp_Record tab_dunnagehelp_Record = true := by kernel_rfl
theorem call_dunnagehelp_Record {a_0 : Int} {a_1 : Int} {a_2 : Sl} {a_3 : Int} {a_4 : Int} {a_5 : Int} {a_6 : Int} {b_0 : Int} {b_1 : Int} {b_2 : Sl} {b_3 : Int} {b_4 : Int} {b_5 : Int} {b_6 : Int} {h : Mem} {Q : Bool → Mem → Prop} (w : wp_dunnagehelp_Record a_0 a_1 a_2 a_3 a_4 a_5 a_6 b_0 b_1 b_2 b_3 b_4 b_5 b_6 h Q) : CallF PG fn_dunnagehelp_Record [.agg #[.int .i64 a_0, .int .u64 a_1, .slice a_2.a a_2.len a_2.cap, .int .u64 a_3, .int .i64 a_4, .int .i64 a_5, .int .i64 a_6], .agg #[.int .i64 b_0, .int .u64 b_1, .slice b_2.a b_2.len b_2.cap, .int .u64 b_3, .int .i64 b_4, .int .i64 b_5, .int .i64 b_6]] (.one (.leaf .bool)) h Q := callF_of PM ok_dunnagehelp_Record (eq_dunnagehelp_Record a_0 a_1 a_2 a_3 a_4 a_5 a_6 b_0 b_1 b_2 b_3 b_4 b_5 b_6 h Q ▸ w)

/- 63: dunnage/dunnagehelp.Kept[byte]; loop 5: [i] -/
def tab_dunnagehelp_Kept_byte_ : Tab := ⟨[(5, ⟨[(8, .leaf (.int .i64))], [6, 28, 29, 30, 31, 32, 33, 34, 35, 36, 37, 38, 39]⟩)], [], []⟩
def wp_dunnagehelp_Kept_byte_ (out : Sl) (l : Sl) (fill : Int) (h : Mem) (Q : Bool → Mem → Prop) : Prop :=
  CallF PG fn_dunnagehelp_Plain_byte_ [Value.slice out.a out.len out.cap, Value.slice l.a l.len l.cap] (Kd.one (Cmp.leaf Leaf.bool)) h fun (b1 : Bool) (h2 : Mem) =>
    Br (!b1) (Q false h2)
      (Br (decide ((↑out.cap : Int) < IntKind.i64.wrap ((↑l.len : Int) + 3))) (Q false h2)
        (Cut 1 out.a out.len out.cap none (some (IntKind.i64.wrap ((↑l.len : Int) + 3))) none fun (s3 : Sl) =>
          ∃ (I4 : Int → Mem → Prop),
            ∃ (I5 : Int → Mem → Nat),
              I4 (↑l.len : Int) h2 ∧
                ∀ (j6 : Fr) (n7 : Int) (h8 : Mem),
                  I4 n7 h8 →
                    Br (decide (n7 < (↑s3.len : Int)))
                      (Idx s3.a s3.len n7 fun (p9 : Addr) =>
                        Ld PG ty_uint8 (p9.add (n7.toNat * 1)) (Kd.one (Cmp.leaf (Leaf.int IntKind.u8))) h8 fun (n10 : Int) =>
                          Br (n10 != fill) (Q false h8) (I4 (IntKind.i64.wrap (n7 + 1)) h8 ∧ I5 (IntKind.i64.wrap (n7 + 1)) h8 < I5 n7 h8))
                      (Q true h8)))
theorem eq_dunnagehelp_Kept_byte_ (out : Sl) (l : Sl) (fill : Int) (h : Mem) (Q : Bool → Mem → Prop) : wp_dunnagehelp_Kept_byte_ out l fill h Q = evFn PG fn_dunnagehelp_Kept_byte_ tab_dunnagehelp_Kept_byte_ [.slice out.a out.len out.cap, .slice l.a l.len l.cap, .int .u8 fill] (.one (.leaf .bool)) h Q := by kernel_rfl
theorem ok_dunnagehelp_Kept_byte_ : okF PG fn_dunnagehelp_Kept_byte_ tab_dunnagehelp_Kept_byte_ = true := by kernel_rfl
theorem call_dunnagehelp_Kept_byte_ {out : Sl} {l : Sl} {fill : Int} {h : Mem} {Q : Bool → Mem → Prop} (w : wp_dunnagehelp_Kept_byte_ out l fill h Q) : CallF PG fn_dunnagehelp_Kept_byte_ [.slice out.a out.len out.cap, .slice l.a l.len l.cap, .int .u8 fill] (.one (.leaf .bool)) h Q := callF_of PM ok_dunnagehelp_Kept_byte_ (eq_dunnagehelp_Kept_byte_ out l fill h Q ▸ w)

/- 64: dunnage/dunnageref11.Right; loop 2: [i] -/
def tab_dunnageref11_Right : Tab := ⟨[(2, ⟨[(3, .leaf (.int .i64))], [2, 4, 5, 6, 7, 8, 9, 10, 11, 12, 13, 14, 15, 16, 17, 18, 19, 20, 21, 22, 23, 24, 25, 26, 27, 28, 29, 30, 31, 32, 33, 34, 35, 36, 37, 38, 39, 40, 41, 42, 43, 44]⟩)], [], []⟩
def wp_dunnageref11_Right (l : Sl) (h : Mem) (Q : Bool → Mem → Prop) : Prop :=
  ∃ (I1 : Int → Mem → Prop),
    ∃ (I2 : Int → Mem → Nat),
      I1 0 h ∧
        ∀ (j3 : Fr) (n4 : Int) (h5 : Mem),
          I1 n4 h5 →
            Br (decide (n4 < (↑l.len : Int)))
              (Idx l.a l.len n4 fun (p6 : Addr) =>
                Ld PG ty_string (p6.add (n4.toNat * 2)) (Kd.one (Cmp.leaf Leaf.str)) h5 fun (t7 : ByteArray) =>
                  CallF PG fn_dunnageref09_May [Value.string t7] (Kd.one (Cmp.leaf Leaf.bool)) h5 fun (b8 : Bool) (h9 : Mem) =>
                    Br (!b8) (Q false h9)
                      (Idx l.a l.len n4 fun (p10 : Addr) =>
                        Ld PG ty_sl_uint8 ((p10.add (n4.toNat * 2)).add 1) (Kd.one (Cmp.leaf Leaf.sl)) h9 fun (s11 : Sl) =>
                          Br (decide ((↑s11.len : Int) > 4096)) (Q false h9)
                            (Br (decide (n4 > 0))
                              (Idx l.a l.len (IntKind.i64.wrap (n4 - 1)) fun (p12 : Addr) =>
                                Ld PG ty_string (p12.add ((IntKind.i64.wrap (n4 - 1)).toNat * 2)) (Kd.one (Cmp.leaf Leaf.str)) h9 fun (t13 : ByteArray) =>
                                  Idx l.a l.len n4 fun (p14 : Addr) =>
                                    Ld PG ty_string (p14.add (n4.toNat * 2)) (Kd.one (Cmp.leaf Leaf.str)) h9 fun (t15 : ByteArray) =>
                                      CallF PG fn_dunnageref09_Less [Value.string t13, Value.string t15] (Kd.one (Cmp.leaf Leaf.bool)) h9 fun (b16 : Bool) (h17 : Mem) =>
                                        Br (!b16) (Q false h17) (I1 (IntKind.i64.wrap (n4 + 1)) h17 ∧ I2 (IntKind.i64.wrap (n4 + 1)) h17 < I2 n4 h5))
                              (I1 (IntKind.i64.wrap (n4 + 1)) h9 ∧ I2 (IntKind.i64.wrap (n4 + 1)) h9 < I2 n4 h5))))
              (Q true h5)
theorem eq_dunnageref11_Right (l : Sl) (h : Mem) (Q : Bool → Mem → Prop) : wp_dunnageref11_Right l h Q = evFn PG fn_dunnageref11_Right tab_dunnageref11_Right [.slice l.a l.len l.cap] (.one (.leaf .bool)) h Q := by kernel_rfl
theorem ok_dunnageref11_Right : okF PG fn_dunnageref11_Right tab_dunnageref11_Right = true := by kernel_rfl
theorem call_dunnageref11_Right {l : Sl} {h : Mem} {Q : Bool → Mem → Prop} (w : wp_dunnageref11_Right l h Q) : CallF PG fn_dunnageref11_Right [.slice l.a l.len l.cap] (.one (.leaf .bool)) h Q := callF_of PM ok_dunnageref11_Right (eq_dunnageref11_Right l h Q ▸ w)

/- 65: dunnage/dunnageref11.Get; loop 4: [i] -/
def tab_dunnageref11_Get : Tab := ⟨[(4, ⟨[(6, .leaf (.int .i64))], [4, 5, 10, 11, 12, 13, 14, 15, 16, 17, 18, 19, 20, 21, 22, 23, 24, 25, 26, 27, 28]⟩)], [], []⟩
def wp_dunnageref11_Get (l : Sl) (key : ByteArray) (h : Mem) (Q : Sl → Bool → Mem → Prop) : Prop :=
  CallF PG fn_dunnageref11_Right [Value.slice l.a l.len l.cap] (Kd.one (Cmp.leaf Leaf.bool)) h fun (b1 : Bool) (h2 : Mem) =>
    Br (!b1) (Q (Sl.mk none 0 0) false h2)
      (∃ (I3 : Int → Mem → Prop),
        ∃ (I4 : Int → Mem → Nat),
          I3 0 h2 ∧
            ∀ (j5 : Fr) (n6 : Int) (h7 : Mem),
              I3 n6 h7 →
                Br (decide (n6 < (↑l.len : Int)))
                  (Idx l.a l.len n6 fun (p8 : Addr) =>
                    Ld PG ty_string (p8.add (n6.toNat * 2)) (Kd.one (Cmp.leaf Leaf.str)) h7 fun (t9 : ByteArray) =>
                      Br (sEq t9 key)
                        (Idx l.a l.len n6 fun (p10 : Addr) =>
                          Ld PG ty_sl_uint8 ((p10.add (n6.toNat * 2)).add 1) (Kd.one (Cmp.leaf Leaf.sl)) h7 fun (s11 : Sl) =>
                            CallF PG fn_dunnagehelp_CopyBytes [Value.slice s11.a s11.len s11.cap] (Kd.one (Cmp.leaf Leaf.sl)) h7 fun (s12 : Sl) (h13 : Mem) =>
                              Q (Sl.mk s12.a s12.len s12.cap) true h13)
                        (I3 (IntKind.i64.wrap (n6 + 1)) h7 ∧ I4 (IntKind.i64.wrap (n6 + 1)) h7 < I4 n6 h7))
                  (Q (Sl.mk none 0 0) false h7))
theorem eq_dunnageref11_Get (l : Sl) (key : ByteArray) (h : Mem) (Q : Sl → Bool → Mem → Prop) : wp_dunnageref11_Get l key h Q = evFn PG fn_dunnageref11_Get tab_dunnageref11_Get [.slice l.a l.len l.cap, .string key] (.tup [(.leaf .sl), (.leaf .bool)]) h Q := by kernel_rfl
theorem ok_dunnageref11_Get : okF PG fn_dunnageref11_Get tab_dunnageref11_Get = true := by kernel_rfl
theorem call_dunnageref11_Get {l : Sl} {key : ByteArray} {h : Mem} {Q : Sl → Bool → Mem → Prop} (w : wp_dunnageref11_Get l key h Q) : CallF PG fn_dunnageref11_Get [.slice l.a l.len l.cap, .string key] (.tup [(.leaf .sl), (.leaf .bool)]) h Q := callF_of PM ok_dunnageref11_Get (eq_dunnageref11_Get l key h Q ▸ w)

/- 66: dunnage/dunnageref11.Scan; loop 3: [out, i] -/
def tab_dunnageref11_Scan : Tab := ⟨[(3, ⟨[(9, .leaf .sl), (10, .leaf (.int .i64))], [11, 12, 13, 14, 15, 16, 17, 18, 19, 20, 21, 22, 23, 24, 25, 26, 27, 28, 29, 30, 31, 32, 33, 34, 35, 36, 37, 38, 39, 40, 41, 42, 43, 44, 45, 46, 47, 48, 49]⟩)], [], [(3, (chainT [(0, false), (1, false), (2, false)] (.join ⟨[(18, .leaf .bool)], [14, 15, 16, 17]⟩ (chainT [(3, false), (4, false), (5, false), (6, false), (7, false)] .nil) (chainT [(8, false), (9, false), (10, false), (11, false), (12, false), (13, false)] .nil))))]⟩
def wp_dunnageref11_Scan (l : Sl) (lo : ByteArray) (hi : ByteArray) (most : Int) (h : Mem) (Q : Sl → Mem → Prop) : Prop :=
  ∃ (I1 : Sl → Int → Mem → Prop),
    ∃ (I2 : Sl → Int → Mem → Nat),
      I1 (Sl.mk none 0 0) 0 h ∧
        ∀ (j3 : Fr) (s4 : Sl) (n5 : Int) (h6 : Mem),
          I1 s4 n5 h6 →
            CallF PG fn_dunnageref11_Right [Value.slice l.a l.len l.cap] (Kd.one (Cmp.leaf Leaf.bool)) h6 fun (b7 : Bool) (h8 : Mem) =>
              ∃ (I9 : Bool → Mem → Prop),
                (∀ (j10 : Fr) (b11 : Bool) (h12 : Mem),
                    I9 b11 h12 →
                      Br b11
                        (Br (decide ((↑s4.len : Int) < most))
                          (Idx l.a l.len n5 fun (p13 : Addr) =>
                            Ld PG ty_string (p13.add (n5.toNat * 2)) (Kd.one (Cmp.leaf Leaf.str)) h12 fun (t14 : ByteArray) =>
                              CallF PG fn_dunnageref09_Within [Value.string lo, Value.string hi, Value.string t14] (Kd.one (Cmp.leaf Leaf.bool)) h12 fun (b15 : Bool) (h16 : Mem) =>
                                Br b15
                                  (Idx l.a l.len n5 fun (p17 : Addr) =>
                                    Ld PG ty_string (p17.add (n5.toNat * 2)) (Kd.one (Cmp.leaf Leaf.str)) h16 fun (t18 : ByteArray) =>
                                      Idx l.a l.len n5 fun (p19 : Addr) =>
                                        Ld PG ty_sl_uint8 ((p19.add (n5.toNat * 2)).add 1) (Kd.one (Cmp.leaf Leaf.sl)) h16 fun (s20 : Sl) =>
                                          CallF PG fn_dunnagehelp_CopyBytes [Value.slice s20.a s20.len s20.cap] (Kd.one (Cmp.leaf Leaf.sl)) h16 fun (s21 : Sl) (h22 : Mem) =>
                                            (Ld PG ty_string (p17.add (n5.toNat * 2)) (Kd.one (Cmp.leaf Leaf.str)) h22 fun (t23 : ByteArray) => Value.string t23 = Value.string t18) ∧
                                              New (Obj.cells #[Value.string t18, Value.slice s21.a s21.len s21.cap] ty_api_Pair) h22 fun (k24 : Nat) (h25 : Mem) =>
                                                PrimT PG (Builtin.append_ #[ty_sl_api_Pair, ty_sl_api_Pair] ty_sl_api_Pair #[Value.slice s4.a s4.len s4.cap, Value.slice (some (Addr.mk k24 0 none)) 1 1])
                                                  (Kd.one (Cmp.leaf Leaf.sl)) h25 fun (s26 : Sl) (h27 : Mem) =>
                                                  I1 (Sl.mk s26.a s26.len s26.cap) (IntKind.i64.wrap (n5 + 1)) h27 ∧
                                                    I2 (Sl.mk s26.a s26.len s26.cap) (IntKind.i64.wrap (n5 + 1)) h27 < I2 s4 n5 h6)
                                  (I1 (Sl.mk s4.a s4.len s4.cap) (IntKind.i64.wrap (n5 + 1)) h16 ∧ I2 (Sl.mk s4.a s4.len s4.cap) (IntKind.i64.wrap (n5 + 1)) h16 < I2 s4 n5 h6))
                          (Q (Sl.mk s4.a s4.len s4.cap) h12))
                        (Q (Sl.mk s4.a s4.len s4.cap) h12)) ∧
                  Br b7 (I9 (decide (n5 < (↑l.len : Int))) h8) (I9 false h8)
theorem eq_dunnageref11_Scan (l : Sl) (lo : ByteArray) (hi : ByteArray) (most : Int) (h : Mem) (Q : Sl → Mem → Prop) : wp_dunnageref11_Scan l lo hi most h Q = evFn PG fn_dunnageref11_Scan tab_dunnageref11_Scan [.slice l.a l.len l.cap, .string lo, .string hi, .int .i64 most] (.one (.leaf .sl)) h Q := by kernel_rfl
theorem ok_dunnageref11_Scan : okF PG fn_dunnageref11_Scan tab_dunnageref11_Scan = true := by kernel_rfl
theorem call_dunnageref11_Scan {l : Sl} {lo : ByteArray} {hi : ByteArray} {most : Int} {h : Mem} {Q : Sl → Mem → Prop} (w : wp_dunnageref11_Scan l lo hi most h Q) : CallF PG fn_dunnageref11_Scan [.slice l.a l.len l.cap, .string lo, .string hi, .int .i64 most] (.one (.leaf .sl)) h Q := callF_of PM ok_dunnageref11_Scan (eq_dunnageref11_Scan l lo hi most h Q ▸ w)

/- 67: dunnage/plain.Bytes; loop 5: [n, ] -/
def tab_plain_Bytes : Tab := ⟨[(5, ⟨[(3, .leaf (.int .i64)), (11, .leaf (.int .i64))], [5, 12, 13, 14, 15, 16, 17, 18, 19, 20, 21, 22, 23, 24]⟩)], [], []⟩
def wp_plain_Bytes (l : Sl) (h : Mem) (Q : Int → Mem → Prop) : Prop :=
  CallF PG fn_plain_Check [Value.slice l.a l.len l.cap] (Kd.one (Cmp.leaf (Leaf.int IntKind.i64))) h fun (n1 : Int) (h2 : Mem) =>
    Br (n1 != 0) (Q 0 h2)
      (∃ (I3 : Int → Int → Mem → Prop),
        ∃ (I4 : Int → Int → Mem → Nat),
          I3 0 0 h2 ∧
            ∀ (j5 : Fr) (n6 n7 : Int) (h8 : Mem),
              I3 n6 n7 h8 →
                Br (decide (n7 < (↑l.len : Int)))
                  (Idx l.a l.len n7 fun (p9 : Addr) =>
                    Ld PG ty_api_Pair (p9.add (n7.toNat * 2)) (Kd.one (Cmp.agg [Leaf.str, Leaf.sl])) h8 fun (t10 : ByteArray) (s11 : Sl) =>
                      New (Obj.cells #[Value.string (ByteArray.mk #[]), Value.slice none 0 0] ty_api_Pair) h8 fun (k12 : Nat) (h13 : Mem) =>
                        St PG ty_api_Pair (Addr.mk k12 0 none) (Value.agg #[Value.string t10, Value.slice s11.a s11.len s11.cap]) h13 fun (h14 : Mem) =>
                          Ld PG ty_string (Addr.mk k12 0 none) (Kd.one (Cmp.leaf Leaf.str)) h14 fun (t15 : ByteArray) =>
                            Ld PG ty_sl_uint8 ((Addr.mk k12 0 none).add 1) (Kd.one (Cmp.leaf Leaf.sl)) h14 fun (s16 : Sl) =>
                              I3 (IntKind.i64.wrap (n6 + IntKind.i64.wrap ((↑t15.size : Int) + (↑s16.len : Int)))) (IntKind.i64.wrap (n7 + 1)) h14 ∧
                                I4 (IntKind.i64.wrap (n6 + IntKind.i64.wrap ((↑t15.size : Int) + (↑s16.len : Int)))) (IntKind.i64.wrap (n7 + 1)) h14 < I4 n6 n7 h8)
                  (Q n6 h8))
theorem eq_plain_Bytes (l : Sl) (h : Mem) (Q : Int → Mem → Prop) : wp_plain_Bytes l h Q = evFn PG fn_plain_Bytes tab_plain_Bytes [.slice l.a l.len l.cap] (.one (.leaf (.int .i64))) h Q := by kernel_rfl
theorem ok_plain_Bytes : okF PG fn_plain_Bytes tab_plain_Bytes = true := by kernel_rfl
theorem call_plain_Bytes {l : Sl} {h : Mem} {Q : Int → Mem → Prop} (w : wp_plain_Bytes l h Q) : CallF PG fn_plain_Bytes [.slice l.a l.len l.cap] (.one (.leaf (.int .i64))) h Q := callF_of PM ok_plain_Bytes (eq_plain_Bytes l h Q ▸ w)

/- 68: dunnage/dunnageref11.Bytes; loop 3: [n, i] -/
def tab_dunnageref11_Bytes : Tab := ⟨[(3, ⟨[(3, .leaf (.int .i64)), (4, .leaf (.int .i64))], [5, 6, 7, 8, 9, 10, 11, 12, 13, 14, 15, 16, 17, 18, 19, 20, 21, 22, 23, 24, 25, 26, 27, 28, 29]⟩)], [], []⟩
def wp_dunnageref11_Bytes (l : Sl) (h : Mem) (Q : Int → Mem → Prop) : Prop :=
  ∃ (I1 : Int → Int → Mem → Prop),
    ∃ (I2 : Int → Int → Mem → Nat),
      I1 0 0 h ∧
        ∀ (j3 : Fr) (n4 n5 : Int) (h6 : Mem),
          I1 n4 n5 h6 →
            CallF PG fn_dunnageref11_Right [Value.slice l.a l.len l.cap] (Kd.one (Cmp.leaf Leaf.bool)) h6 fun (b7 : Bool) (h8 : Mem) =>
              Br b7
                (Br (decide (n5 < (↑l.len : Int)))
                  (Idx l.a l.len n5 fun (p9 : Addr) =>
                    Ld PG ty_string (p9.add (n5.toNat * 2)) (Kd.one (Cmp.leaf Leaf.str)) h8 fun (t10 : ByteArray) =>
                      Idx l.a l.len n5 fun (p11 : Addr) =>
                        Ld PG ty_sl_uint8 ((p11.add (n5.toNat * 2)).add 1) (Kd.one (Cmp.leaf Leaf.sl)) h8 fun (s12 : Sl) =>
                          I1 (IntKind.i64.wrap (IntKind.i64.wrap (n4 + (↑t10.size : Int)) + (↑s12.len : Int))) (IntKind.i64.wrap (n5 + 1)) h8 ∧
                            I2 (IntKind.i64.wrap (IntKind.i64.wrap (n4 + (↑t10.size : Int)) + (↑s12.len : Int))) (IntKind.i64.wrap (n5 + 1)) h8 < I2 n4 n5 h6)
                  (Q n4 h8))
                (Q n4 h8)
theorem eq_dunnageref11_Bytes (l : Sl) (h : Mem) (Q : Int → Mem → Prop) : wp_dunnageref11_Bytes l h Q = evFn PG fn_dunnageref11_Bytes tab_dunnageref11_Bytes [.slice l.a l.len l.cap] (.one (.leaf (.int .i64))) h Q := by kernel_rfl
theorem ok_dunnageref11_Bytes : okF PG fn_dunnageref11_Bytes tab_dunnageref11_Bytes = true := by kernel_rfl
theorem call_dunnageref11_Bytes {l : Sl} {h : Mem} {Q : Int → Mem → Prop} (w : wp_dunnageref11_Bytes l h Q) : CallF PG fn_dunnageref11_Bytes [.slice l.a l.len l.cap] (.one (.leaf (.int .i64))) h Q := callF_of PM ok_dunnageref11_Bytes (eq_dunnageref11_Bytes l h Q ▸ w)

/- 69: dunnage/plain.Differ; loop 4: [a, b, out]; join 8: []; join 10: []; join 13: [a] -/
def tab_plain_Differ : Tab := ⟨[(4, ⟨[(0, .leaf .sl), (1, .leaf .sl), (5, .leaf .sl)], [6, 15, 16, 17, 18, 19, 20, 21, 22, 23, 24, 25, 26, 27, 28, 29, 30, 31, 32, 33, 34, 35, 36, 37, 38, 39, 40, 41, 42, 43, 44, 45, 46, 47, 48, 49, 50, 51, 52, 53, 54, 55, 56, 57, 58, 59, 60, 61, 62, 63, 64, 65, 66, 67, 68, 69, 70, 71, 72, 73, 74, 75, 76, 77, 78, 79, 80, 81, 82, 83, 84, 85, 86, 87, 88, 89, 90, 91, 92, 93, 94, 95, 96, 97, 98, 99, 100, 101, 102, 103, 104, 105, 106, 107, 108, 109, 110, 111, 112]⟩)], [(8, ⟨[], [23, 24, 25, 26, 27, 28, 29, 30, 31, 32, 33, 34, 35, 36, 37, 38, 39, 40, 41, 42, 43, 44, 45, 46, 47]⟩), (10, ⟨[], [48, 49, 50, 51, 52, 53, 54, 55, 56, 57, 58, 59, 60, 61, 62, 63, 64, 65, 66, 67, 68, 69, 70, 71, 72]⟩), (13, ⟨[(0, .leaf .sl)], [73, 74, 75, 76, 77, 78, 79, 80, 81, 82]⟩)], [(8, (chainT [(0, false), (1, false), (2, false), (3, false)] (.join ⟨[(66, .leaf .bool)], [52, 53, 54, 55, 56, 57, 58, 59, 60, 61, 62, 63, 64, 65]⟩ (chainT [(4, false), (5, false), (6, false), (7, false), (8, false), (9, false), (10, false), (11, false), (12, false), (13, false), (14, false), (15, false), (16, false), (17, false), (18, false)] .nil) .nil))), (6, (chainT [(0, false), (1, false), (2, false), (3, false)] (.join ⟨[(41, .leaf .bool)], [27, 28, 29, 30, 31, 32, 33, 34, 35, 36, 37, 38, 39, 40]⟩ (chainT [(4, false), (5, false), (6, false), (7, false), (8, false), (9, false), (10, false), (11, false), (12, false), (13, false), (14, false), (15, false), (16, false), (17, false), (18, false)] .nil) .nil))), (4, (chainT [(0, false), (1, false), (2, false), (3, false)] (.join ⟨[(22, .leaf .bool)], [19, 20, 21]⟩ (chainT [(4, false), (5, false), (6, false), (7, false)] .nil) .nil))), (1, (chainT [(0, false), (1, false), (2, false), (3, false)] (.join ⟨[(14, .leaf .bool)], [11, 12, 13]⟩ (chainT [(4, false), (5, false), (6, false), (7, false)] .nil) .nil)))]⟩
def wp_plain_Differ (a : Sl) (b : Sl) (h : Mem) (Q : Sl → Mem → Prop) : Prop :=
  CallF PG fn_plain_Check [Value.slice a.a a.len a.cap] (Kd.one (Cmp.leaf (Leaf.int IntKind.i64))) h fun (n1 : Int) (h2 : Mem) =>
    ∃ (I3 : Bool → Mem → Prop),
      (∀ (j4 : Fr) (b5 : Bool) (h6 : Mem),
          I3 b5 h6 →
            Br b5 (Q (Sl.mk none 0 0) h6)
              (∃ (I7 : Sl → Sl → Sl → Mem → Prop),
                ∃ (I8 : Sl → Sl → Sl → Mem → Nat),
                  I7 (Sl.mk a.a a.len a.cap) (Sl.mk b.a b.len b.cap) (Sl.mk none 0 0) h6 ∧
                    ∀ (j9 : Fr) (s10 s11 s12 : Sl) (h13 : Mem),
                      I7 s10 s11 s12 h13 →
                        ∃ (I14 : Bool → Mem → Prop),
                          (∀ (j15 : Fr) (b16 : Bool) (h17 : Mem),
                              I14 b16 h17 →
                                Br b16
                                  (New (Obj.cells #[Value.string (ByteArray.mk #[]), Value.bool false, Value.bool false, Value.slice none 0 0, Value.slice none 0 0] ty_api_Diff) h17
                                    fun (k18 : Nat) (h19 : Mem) =>
                                    ∃ (I20 : Mem → Prop),
                                      (∀ (j21 : Fr) (h22 : Mem),
                                          I20 h22 →
                                            ∃ (I23 : Mem → Prop),
                                              (∀ (j24 : Fr) (h25 : Mem),
                                                  I23 h25 →
                                                    ∃ (I26 : Sl → Mem → Prop),
                                                      (∀ (j27 : Fr) (s28 : Sl) (h29 : Mem),
                                                          I26 s28 h29 →
                                                            Ld PG ty_bool ((Addr.mk k18 0 none).add 2) (Kd.one (Cmp.leaf Leaf.bool)) h29 fun (b30 : Bool) =>
                                                              Br b30
                                                                (Idx s11.a s11.len 0 fun (p31 : Addr) =>
                                                                  Ld PG ty_sl_uint8 ((p31.add 0).add 1) (Kd.one (Cmp.leaf Leaf.sl)) h29 fun (s32 : Sl) =>
                                                                    CallF PG fn_slices_Clone_byte_byte_ [Value.slice s32.a s32.len s32.cap] (Kd.one (Cmp.leaf Leaf.sl)) h29
                                                                      fun (s33 : Sl) (h34 : Mem) =>
                                                                      St PG ty_sl_uint8 ((Addr.mk k18 0 none).add 4) (Value.slice s33.a s33.len s33.cap) h34 fun (h35 : Mem) =>
                                                                        Cut 2 s11.a s11.len s11.cap (some 1) none none fun (s36 : Sl) =>
                                                                          Ld PG ty_bool ((Addr.mk k18 0 none).add 1) (Kd.one (Cmp.leaf Leaf.bool)) h35 fun (b37 : Bool) =>
                                                                            Br (!b37)
                                                                              (Ld PG ty_api_Diff (Addr.mk k18 0 none)
                                                                                (Kd.one (Cmp.agg [Leaf.str, Leaf.bool, Leaf.bool, Leaf.sl, Leaf.sl])) h35
                                                                                fun (t38 : ByteArray) (b39 b40 : Bool) (s41 s42 : Sl) =>
                                                                                New
                                                                                  (Obj.cells
                                                                                    #[Value.string t38, Value.bool b39, Value.bool b40, Value.slice s41.a s41.len s41.cap,
                                                                                      Value.slice s42.a s42.len s42.cap]
                                                                                    87)
                                                                                  h35 fun (k43 : Nat) (h44 : Mem) =>
                                                                                  PrimT PG
                                                                                    (Builtin.append_ #[ty_sl_api_Diff, ty_sl_api_Diff] ty_sl_api_Diff
                                                                                      #[Value.slice s12.a s12.len s12.cap, Value.slice (some (Addr.mk k43 0 none)) 1 1])
                                                                                    (Kd.one (Cmp.leaf Leaf.sl)) h44 fun (s45 : Sl) (h46 : Mem) =>
                                                                                    I7 (Sl.mk s28.a s28.len s28.cap) (Sl.mk s36.a s36.len s36.cap) (Sl.mk s45.a s45.len s45.cap) h46 ∧
                                                                                      I8 (Sl.mk s28.a s28.len s28.cap) (Sl.mk s36.a s36.len s36.cap) (Sl.mk s45.a s45.len s45.cap)
                                                                                          h46 <
                                                                                        I8 s10 s11 s12 h13)
                                                                              (Ld PG ty_bool ((Addr.mk k18 0 none).add 2) (Kd.one (Cmp.leaf Leaf.bool)) h35 fun (b47 : Bool) =>
                                                                                Br (!b47)
                                                                                  (Ld PG ty_api_Diff (Addr.mk k18 0 none)
                                                                                    (Kd.one (Cmp.agg [Leaf.str, Leaf.bool, Leaf.bool, Leaf.sl, Leaf.sl])) h35
                                                                                    fun (t48 : ByteArray) (b49 b50 : Bool) (s51 s52 : Sl) =>
                                                                                    New
                                                                                      (Obj.cells
                                                                                        #[Value.string t48, Value.bool b49, Value.bool b50, Value.slice s51.a s51.len s51.cap,
                                                                                          Value.slice s52.a s52.len s52.cap]
                                                                                        87)
                                                                                      h35 fun (k53 : Nat) (h54 : Mem) =>
                                                                                      PrimT PG
                                                                                        (Builtin.append_ #[ty_sl_api_Diff, ty_sl_api_Diff] ty_sl_api_Diff
                                                                                          #[Value.slice s12.a s12.len s12.cap, Value.slice (some (Addr.mk k53 0 none)) 1 1])
                                                                                        (Kd.one (Cmp.leaf Leaf.sl)) h54 fun (s55 : Sl) (h56 : Mem) =>
                                                                                        I7 (Sl.mk s28.a s28.len s28.cap) (Sl.mk s36.a s36.len s36.cap) (Sl.mk s55.a s55.len s55.cap)
                                                                                            h56 ∧
                                                                                          I8 (Sl.mk s28.a s28.len s28.cap) (Sl.mk s36.a s36.len s36.cap) (Sl.mk s55.a s55.len s55.cap)
                                                                                              h56 <
                                                                                            I8 s10 s11 s12 h13)
                                                                                  (Ld PG ty_sl_uint8 ((Addr.mk k18 0 none).add 3) (Kd.one (Cmp.leaf Leaf.sl)) h35 fun (s57 : Sl) =>
                                                                                    Ld PG ty_sl_uint8 ((Addr.mk k18 0 none).add 4) (Kd.one (Cmp.leaf Leaf.sl)) h35 fun (s58 : Sl) =>
                                                                                      CallF PG fn_bytes_Equal [Value.slice s57.a s57.len s57.cap, Value.slice s58.a s58.len s58.cap]
                                                                                        (Kd.one (Cmp.leaf Leaf.bool)) h35 fun (b59 : Bool) (h60 : Mem) =>
                                                                                        Br (!b59)
                                                                                          (Ld PG ty_api_Diff (Addr.mk k18 0 none)
                                                                                            (Kd.one (Cmp.agg [Leaf.str, Leaf.bool, Leaf.bool, Leaf.sl, Leaf.sl])) h60
                                                                                            fun (t61 : ByteArray) (b62 b63 : Bool) (s64 s65 : Sl) =>
                                                                                            New
                                                                                              (Obj.cells
                                                                                                #[Value.string t61, Value.bool b62, Value.bool b63, Value.slice s64.a s64.len s64.cap,
                                                                                                  Value.slice s65.a s65.len s65.cap]
                                                                                                87)
                                                                                              h60 fun (k66 : Nat) (h67 : Mem) =>
                                                                                              PrimT PG
                                                                                                (Builtin.append_ #[ty_sl_api_Diff, ty_sl_api_Diff] ty_sl_api_Diff
                                                                                                  #[Value.slice s12.a s12.len s12.cap, Value.slice (some (Addr.mk k66 0 none)) 1 1])
                                                                                                (Kd.one (Cmp.leaf Leaf.sl)) h67 fun (s68 : Sl) (h69 : Mem) =>
                                                                                                I7 (Sl.mk s28.a s28.len s28.cap) (Sl.mk s36.a s36.len s36.cap)
                                                                                                    (Sl.mk s68.a s68.len s68.cap) h69 ∧
                                                                                                  I8 (Sl.mk s28.a s28.len s28.cap) (Sl.mk s36.a s36.len s36.cap)
                                                                                                      (Sl.mk s68.a s68.len s68.cap) h69 <
                                                                                                    I8 s10 s11 s12 h13)
                                                                                          (I7 (Sl.mk s28.a s28.len s28.cap) (Sl.mk s36.a s36.len s36.cap)
                                                                                              (Sl.mk s12.a s12.len s12.cap) h60 ∧
                                                                                            I8 (Sl.mk s28.a s28.len s28.cap) (Sl.mk s36.a s36.len s36.cap)
                                                                                                (Sl.mk s12.a s12.len s12.cap) h60 <
                                                                                              I8 s10 s11 s12 h13))))
                                                                (Ld PG ty_bool ((Addr.mk k18 0 none).add 1) (Kd.one (Cmp.leaf Leaf.bool)) h29 fun (b70 : Bool) =>
                                                                  Br (!b70)
                                                                    (Ld PG ty_api_Diff (Addr.mk k18 0 none) (Kd.one (Cmp.agg [Leaf.str, Leaf.bool, Leaf.bool, Leaf.sl, Leaf.sl])) h29
                                                                      fun (t71 : ByteArray) (b72 b73 : Bool) (s74 s75 : Sl) =>
                                                                      New
                                                                        (Obj.cells
                                                                          #[Value.string t71, Value.bool b72, Value.bool b73, Value.slice s74.a s74.len s74.cap,
                                                                            Value.slice s75.a s75.len s75.cap]
                                                                          87)
                                                                        h29 fun (k76 : Nat) (h77 : Mem) =>
                                                                        PrimT PG
                                                                          (Builtin.append_ #[ty_sl_api_Diff, ty_sl_api_Diff] ty_sl_api_Diff
                                                                            #[Value.slice s12.a s12.len s12.cap, Value.slice (some (Addr.mk k76 0 none)) 1 1])
                                                                          (Kd.one (Cmp.leaf Leaf.sl)) h77 fun (s78 : Sl) (h79 : Mem) =>
                                                                          I7 (Sl.mk s28.a s28.len s28.cap) (Sl.mk s11.a s11.len s11.cap) (Sl.mk s78.a s78.len s78.cap) h79 ∧
                                                                            I8 (Sl.mk s28.a s28.len s28.cap) (Sl.mk s11.a s11.len s11.cap) (Sl.mk s78.a s78.len s78.cap) h79 <
                                                                              I8 s10 s11 s12 h13)
                                                                    (Ld PG ty_bool ((Addr.mk k18 0 none).add 2) (Kd.one (Cmp.leaf Leaf.bool)) h29 fun (b80 : Bool) =>
                                                                      Br (!b80)
                                                                        (Ld PG ty_api_Diff (Addr.mk k18 0 none) (Kd.one (Cmp.agg [Leaf.str, Leaf.bool, Leaf.bool, Leaf.sl, Leaf.sl])) h29
                                                                          fun (t81 : ByteArray) (b82 b83 : Bool) (s84 s85 : Sl) =>
                                                                          New
                                                                            (Obj.cells
                                                                              #[Value.string t81, Value.bool b82, Value.bool b83, Value.slice s84.a s84.len s84.cap,
                                                                                Value.slice s85.a s85.len s85.cap]
                                                                              87)
                                                                            h29 fun (k86 : Nat) (h87 : Mem) =>
                                                                            PrimT PG
                                                                              (Builtin.append_ #[ty_sl_api_Diff, ty_sl_api_Diff] ty_sl_api_Diff
                                                                                #[Value.slice s12.a s12.len s12.cap, Value.slice (some (Addr.mk k86 0 none)) 1 1])
                                                                              (Kd.one (Cmp.leaf Leaf.sl)) h87 fun (s88 : Sl) (h89 : Mem) =>
                                                                              I7 (Sl.mk s28.a s28.len s28.cap) (Sl.mk s11.a s11.len s11.cap) (Sl.mk s88.a s88.len s88.cap) h89 ∧
                                                                                I8 (Sl.mk s28.a s28.len s28.cap) (Sl.mk s11.a s11.len s11.cap) (Sl.mk s88.a s88.len s88.cap) h89 <
                                                                                  I8 s10 s11 s12 h13)
                                                                        (Ld PG ty_sl_uint8 ((Addr.mk k18 0 none).add 3) (Kd.one (Cmp.leaf Leaf.sl)) h29 fun (s90 : Sl) =>
                                                                          Ld PG ty_sl_uint8 ((Addr.mk k18 0 none).add 4) (Kd.one (Cmp.leaf Leaf.sl)) h29 fun (s91 : Sl) =>
                                                                            CallF PG fn_bytes_Equal [Value.slice s90.a s90.len s90.cap, Value.slice s91.a s91.len s91.cap]
                                                                              (Kd.one (Cmp.leaf Leaf.bool)) h29 fun (b92 : Bool) (h93 : Mem) =>
                                                                              Br (!b92)
                                                                                (Ld PG ty_api_Diff (Addr.mk k18 0 none)
                                                                                  (Kd.one (Cmp.agg [Leaf.str, Leaf.bool, Leaf.bool, Leaf.sl, Leaf.sl])) h93
                                                                                  fun (t94 : ByteArray) (b95 b96 : Bool) (s97 s98 : Sl) =>
                                                                                  New
                                                                                    (Obj.cells
                                                                                      #[Value.string t94, Value.bool b95, Value.bool b96, Value.slice s97.a s97.len s97.cap,
                                                                                        Value.slice s98.a s98.len s98.cap]
                                                                                      87)
                                                                                    h93 fun (k99 : Nat) (h100 : Mem) =>
                                                                                    PrimT PG
                                                                                      (Builtin.append_ #[ty_sl_api_Diff, ty_sl_api_Diff] ty_sl_api_Diff
                                                                                        #[Value.slice s12.a s12.len s12.cap, Value.slice (some (Addr.mk k99 0 none)) 1 1])
                                                                                      (Kd.one (Cmp.leaf Leaf.sl)) h100 fun (s101 : Sl) (h102 : Mem) =>
                                                                                      I7 (Sl.mk s28.a s28.len s28.cap) (Sl.mk s11.a s11.len s11.cap) (Sl.mk s101.a s101.len s101.cap)
                                                                                          h102 ∧
                                                                                        I8 (Sl.mk s28.a s28.len s28.cap) (Sl.mk s11.a s11.len s11.cap)
                                                                                            (Sl.mk s101.a s101.len s101.cap) h102 <
                                                                                          I8 s10 s11 s12 h13)
                                                                                (I7 (Sl.mk s28.a s28.len s28.cap) (Sl.mk s11.a s11.len s11.cap) (Sl.mk s12.a s12.len s12.cap) h93 ∧
                                                                                  I8 (Sl.mk s28.a s28.len s28.cap) (Sl.mk s11.a s11.len s11.cap) (Sl.mk s12.a s12.len s12.cap) h93 <
                                                                                    I8 s10 s11 s12 h13))))) ∧
                                                        Ld PG ty_bool ((Addr.mk k18 0 none).add 1) (Kd.one (Cmp.leaf Leaf.bool)) h25 fun (b103 : Bool) =>
                                                          Br b103
                                                            (Idx s10.a s10.len 0 fun (p104 : Addr) =>
                                                              Ld PG ty_sl_uint8 ((p104.add 0).add 1) (Kd.one (Cmp.leaf Leaf.sl)) h25 fun (s105 : Sl) =>
                                                                CallF PG fn_slices_Clone_byte_byte_ [Value.slice s105.a s105.len s105.cap] (Kd.one (Cmp.leaf Leaf.sl)) h25
                                                                  fun (s106 : Sl) (h107 : Mem) =>
                                                                  St PG ty_sl_uint8 ((Addr.mk k18 0 none).add 3) (Value.slice s106.a s106.len s106.cap) h107 fun (h108 : Mem) =>
                                                                    Cut 2 s10.a s10.len s10.cap (some 1) none none fun (s109 : Sl) => I26 (Sl.mk s109.a s109.len s109.cap) h108)
                                                            (I26 (Sl.mk s10.a s10.len s10.cap) h25)) ∧
                                                ∃ (I110 : Bool → Mem → Prop),
                                                  (∀ (j111 : Fr) (b112 : Bool) (h113 : Mem),
                                                      I110 b112 h113 →
                                                        Br b112
                                                          (Idx s11.a s11.len 0 fun (p114 : Addr) =>
                                                            Ld PG ty_string (p114.add 0) (Kd.one (Cmp.leaf Leaf.str)) h113 fun (t115 : ByteArray) =>
                                                              St PG ty_string (Addr.mk k18 0 none) (Value.string t115) h113 fun (h116 : Mem) =>
                                                                St PG ty_bool ((Addr.mk k18 0 none).add 2) (Value.bool true) h116 fun (h117 : Mem) => I23 h117)
                                                          (I23 h113)) ∧
                                                    Br (decide ((↑s11.len : Int) > 0))
                                                      (Br ((↑s10.len : Int) == 0) (I110 true h22)
                                                        (Idx s11.a s11.len 0 fun (p118 : Addr) =>
                                                          Ld PG ty_string (p118.add 0) (Kd.one (Cmp.leaf Leaf.str)) h22 fun (t119 : ByteArray) =>
                                                            Idx s10.a s10.len 0 fun (p120 : Addr) =>
                                                              Ld PG ty_string (p120.add 0) (Kd.one (Cmp.leaf Leaf.str)) h22 fun (t121 : ByteArray) =>
                                                                I110 (sLt t119 t121 || sEq t119 t121) h22))
                                                      (I110 false h22)) ∧
                                        ∃ (I122 : Bool → Mem → Prop),
                                          (∀ (j123 : Fr) (b124 : Bool) (h125 : Mem),
                                              I122 b124 h125 →
                                                Br b124
                                                  (Idx s10.a s10.len 0 fun (p126 : Addr) =>
                                                    Ld PG ty_string (p126.add 0) (Kd.one (Cmp.leaf Leaf.str)) h125 fun (t127 : ByteArray) =>
                                                      St PG ty_string (Addr.mk k18 0 none) (Value.string t127) h125 fun (h128 : Mem) =>
                                                        St PG ty_bool ((Addr.mk k18 0 none).add 1) (Value.bool true) h128 fun (h129 : Mem) => I20 h129)
                                                  (I20 h125)) ∧
                                            Br (decide ((↑s10.len : Int) > 0))
                                              (Br ((↑s11.len : Int) == 0) (I122 true h19)
                                                (Idx s10.a s10.len 0 fun (p130 : Addr) =>
                                                  Ld PG ty_string (p130.add 0) (Kd.one (Cmp.leaf Leaf.str)) h19 fun (t131 : ByteArray) =>
                                                    Idx s11.a s11.len 0 fun (p132 : Addr) =>
                                                      Ld PG ty_string (p132.add 0) (Kd.one (Cmp.leaf Leaf.str)) h19 fun (t133 : ByteArray) =>
                                                        I122 (sLt t131 t133 || sEq t131 t133) h19))
                                              (I122 false h19))
                                  (Q (Sl.mk s12.a s12.len s12.cap) h17)) ∧
                            Br (decide ((↑s10.len : Int) > 0)) (I14 true h13) (I14 (decide ((↑s11.len : Int) > 0)) h13))) ∧
        Br (n1 != 0) (I3 true h2) (CallF PG fn_plain_Check [Value.slice b.a b.len b.cap] (Kd.one (Cmp.leaf (Leaf.int IntKind.i64))) h2 fun (n134 : Int) (h135 : Mem) => I3 (n134 != 0) h135)
theorem eq_plain_Differ (a : Sl) (b : Sl) (h : Mem) (Q : Sl → Mem → Prop) : wp_plain_Differ a b h Q = evFn PG fn_plain_Differ tab_plain_Differ [.slice a.a a.len a.cap, .slice b.a b.len b.cap] (.one (.leaf .sl)) h Q := by kernel_rfl
theorem ok_plain_Differ : okF PG fn_plain_Differ tab_plain_Differ = true := by kernel_rfl
theorem call_plain_Differ {a : Sl} {b : Sl} {h : Mem} {Q : Sl → Mem → Prop} (w : wp_plain_Differ a b h Q) : CallF PG fn_plain_Differ [.slice a.a a.len a.cap, .slice b.a b.len b.cap] (.one (.leaf .sl)) h Q := callF_of PM ok_plain_Differ (eq_plain_Differ a b h Q ▸ w)

/- 70: dunnage/dunnagehelp.Diffs -/
def tab_dunnagehelp_Diffs : Tab := ⟨[], [], []⟩
def wp_dunnagehelp_Diffs (a : Sl) (b : Sl) (h : Mem) (Q : Bool → Mem → Prop) : Prop :=
  CallF PG fn_dunnagehelp_Same_api_Diff_ [Value.slice a.a a.len a.cap, Value.slice b.a b.len b.cap, Value.func (Fn.func fn_dunnagehelp_Diff) #[] #[]] (Kd.one (Cmp.leaf Leaf.bool)) h fun (b1 : Bool) (h2 : Mem) =>
    Q b1 h2
theorem eq_dunnagehelp_Diffs (a : Sl) (b : Sl) (h : Mem) (Q : Bool → Mem → Prop) : wp_dunnagehelp_Diffs a b h Q = evFn PG fn_dunnagehelp_Diffs tab_dunnagehelp_Diffs [.slice a.a a.len a.cap, .slice b.a b.len b.cap] (.one (.leaf .bool)) h Q := by kernel_rfl
theorem ok_dunnagehelp_Diffs : okF PG fn_dunnagehelp_Diffs tab_dunnagehelp_Diffs = true := by kernel_rfl
theorem call_dunnagehelp_Diffs {a : Sl} {b : Sl} {h : Mem} {Q : Bool → Mem → Prop} (w : wp_dunnagehelp_Diffs a b h Q) : CallF PG fn_dunnagehelp_Diffs [.slice a.a a.len a.cap, .slice b.a b.len b.cap] (.one (.leaf .bool)) h Q := callF_of PM ok_dunnagehelp_Diffs (eq_dunnagehelp_Diffs a b h Q ▸ w)

/- 72: dunnage/batch.Last; loop 9: [l]; loop 3: [] -/
def tab_batch_Last : Tab := ⟨[(9, ⟨[(6, .leaf .sl)], [8, 9, 25, 26, 27, 28, 29, 30, 31, 32, 33, 34, 35, 36, 37, 38, 39, 40]⟩), (3, ⟨[(13, .leaf (.int .i64))], [4, 5, 14, 15, 16, 17, 18, 19, 20, 21, 22]⟩)], [], []⟩
def wp_batch_Last (ops : Sl) (h : Mem) (Q : Sl → Mem → Prop) : Prop :=
  PrimT PG (Instr.makeMap ty_map_string_int none) (Kd.one (Cmp.leaf Leaf.map)) h fun (q1 : Option Nat) (h2 : Mem) =>
    ∃ (I3 : Int → Mem → Prop),
      ∃ (I4 : Int → Mem → Nat),
        I3 0 h2 ∧
          ∀ (j5 : Fr) (n6 : Int) (h7 : Mem),
            I3 n6 h7 →
              Br (decide (n6 < (↑ops.len : Int)))
                (Idx ops.a ops.len n6 fun (p8 : Addr) =>
                  Ld PG ty_api_Op (p8.add (n6.toNat * 3)) (Kd.one (Cmp.agg [Leaf.str, Leaf.sl, Leaf.bool])) h7 fun (t9 : ByteArray) (s10 : Sl) (b11 : Bool) =>
                    New (Obj.cells #[Value.string (ByteArray.mk #[]), Value.slice none 0 0, Value.bool false] ty_api_Op) h7 fun (k12 : Nat) (h13 : Mem) =>
                      St PG ty_api_Op (Addr.mk k12 0 none) (Value.agg #[Value.string t9, Value.slice s10.a s10.len s10.cap, Value.bool b11]) h13 fun (h14 : Mem) =>
                        Ld PG ty_string (Addr.mk k12 0 none) (Kd.one (Cmp.leaf Leaf.str)) h14 fun (t15 : ByteArray) =>
                          PrimU PG (Instr.mapUpdate ty_map_string_int (Value.map q1) (Value.string t15) (Value.int IntKind.i64 n6)) h14 fun (h16 : Mem) =>
                            I3 (IntKind.i64.wrap (n6 + 1)) h16 ∧ I4 (IntKind.i64.wrap (n6 + 1)) h16 < I4 n6 h7)
                (PrimT PG (Instr.range ty_map_string_int (Value.map q1)) (Kd.one (Cmp.leaf Leaf.ptr)) h7 fun (q17 : Option Addr) (h18 : Mem) =>
                  ∃ (I19 : Sl → Mem → Prop),
                    ∃ (I20 : Sl → Mem → Nat),
                      I19 (Sl.mk none 0 0) h18 ∧
                        ∀ (j21 : Fr) (s22 : Sl) (h23 : Mem),
                          I19 s22 h23 →
                            NextP PG (Instr.next (Value.pointer q17) false 0) h23 fun (b24 : Bool) (x25 : List Value) (h26 : Mem) =>
                              Br b24
                                (ReadT PG (Instr.entry (Value.pointer q17)) (Kd.tup [Cmp.leaf Leaf.raw, Cmp.leaf (Leaf.int IntKind.i64)]) h26 fun (v27 : Value) (n28 : Int) =>
                                  Idx ops.a ops.len n28 fun (p29 : Addr) =>
                                    Ld PG ty_api_Op (p29.add (n28.toNat * 3)) (Kd.one (Cmp.agg [Leaf.str, Leaf.sl, Leaf.bool])) h26 fun (t30 : ByteArray) (s31 : Sl) (b32 : Bool) =>
                                      New (Obj.cells #[Value.string (ByteArray.mk #[]), Value.slice none 0 0, Value.bool false] ty_api_Op) h26 fun (k33 : Nat) (h34 : Mem) =>
                                        St PG ty_api_Op (Addr.mk k33 0 none) (Value.agg #[Value.string t30, Value.slice s31.a s31.len s31.cap, Value.bool b32]) h34 fun (h35 : Mem) =>
                                          Ld PG ty_sl_uint8 ((Addr.mk k33 0 none).add 1) (Kd.one (Cmp.leaf Leaf.sl)) h35 fun (s36 : Sl) =>
                                            CallF PG fn_slices_Clone_byte_byte_ [Value.slice s36.a s36.len s36.cap] (Kd.one (Cmp.leaf Leaf.sl)) h35 fun (s37 : Sl) (h38 : Mem) =>
                                              St PG ty_sl_uint8 ((Addr.mk k33 0 none).add 1) (Value.slice s37.a s37.len s37.cap) h38 fun (h39 : Mem) =>
                                                Ld PG ty_api_Op (Addr.mk k33 0 none) (Kd.one (Cmp.agg [Leaf.str, Leaf.sl, Leaf.bool])) h39
                                                  fun (t40 : ByteArray) (s41 : Sl) (b42 : Bool) =>
                                                  New (Obj.cells #[Value.string t40, Value.slice s41.a s41.len s41.cap, Value.bool b42] ty_api_Op) h39 fun (k43 : Nat) (h44 : Mem) =>
                                                    PrimT PG (Builtin.append_ #[ty_sl_api_Op, ty_sl_api_Op] ty_sl_api_Op #[Value.slice s22.a s22.len s22.cap, Value.slice (some (Addr.mk k43 0 none)) 1 1])
                                                      (Kd.one (Cmp.leaf Leaf.sl)) h44 fun (s45 : Sl) (h46 : Mem) =>
                                                      I19 (Sl.mk s45.a s45.len s45.cap) h46 ∧ I20 (Sl.mk s45.a s45.len s45.cap) h46 < I20 s22 h23)
                                (CallF PG fn_slices_SortFunc_api_Op_api_Op_ [Value.slice s22.a s22.len s22.cap, Value.func (Fn.func fn_batch_Last_1) #[] #[]] (Kd.tup []) h26 fun (h47 : Mem) =>
                                  Q (Sl.mk s22.a s22.len s22.cap) h47))
theorem eq_batch_Last (ops : Sl) (h : Mem) (Q : Sl → Mem → Prop) : wp_batch_Last ops h Q = evFn PG fn_batch_Last tab_batch_Last [.slice ops.a ops.len ops.cap] (.one (.leaf .sl)) h Q := by kernel_rfl
theorem ok_batch_Last : okF PG fn_batch_Last tab_batch_Last = true := by kernel_rfl
theorem call_batch_Last {ops : Sl} {h : Mem} {Q : Sl → Mem → Prop} (w : wp_batch_Last ops h Q) : CallF PG fn_batch_Last [.slice ops.a ops.len ops.cap] (.one (.leaf .sl)) h Q := callF_of PM ok_batch_Last (eq_batch_Last ops h Q ▸ w)

/- 73: dunnage/batch.Check -/
def tab_batch_Check : Tab := ⟨[], [], []⟩
def wp_batch_Check (ops : Sl) (h : Mem) (Q : Int → Mem → Prop) : Prop :=
  Br ((↑ops.len : Int) == 0) (Q 1 h)
    (CallF PG fn_slices_ContainsFunc_api_Op_api_Op_ [Value.slice ops.a ops.len ops.cap, Value.func (Fn.func fn_batch_Check_1) #[] #[]] (Kd.one (Cmp.leaf Leaf.bool)) h fun (b1 : Bool) (h2 : Mem) =>
      Br b1 (Q 1 h2)
        (Br (decide ((↑ops.len : Int) > 32)) (Q 4 h2)
          (CallF PG fn_batch_Size [Value.slice ops.a ops.len ops.cap] (Kd.one (Cmp.leaf (Leaf.int IntKind.i64))) h2 fun (n3 : Int) (h4 : Mem) =>
            Br (decide (n3 > 32768)) (Q 4 h4)
              (CallF PG fn_slices_ContainsFunc_api_Op_api_Op_ [Value.slice ops.a ops.len ops.cap, Value.func (Fn.func fn_batch_Check_2) #[] #[]] (Kd.one (Cmp.leaf Leaf.bool)) h4 fun (b5 : Bool) (h6 : Mem) =>
                Br b5 (Q 4 h6) (Q 0 h6)))))
theorem eq_batch_Check (ops : Sl) (h : Mem) (Q : Int → Mem → Prop) : wp_batch_Check ops h Q = evFn PG fn_batch_Check tab_batch_Check [.slice ops.a ops.len ops.cap] (.one (.leaf (.int .i64))) h Q := by kernel_rfl
theorem ok_batch_Check : okF PG fn_batch_Check tab_batch_Check = true := by kernel_rfl
theorem call_batch_Check {ops : Sl} {h : Mem} {Q : Int → Mem → Prop} (w : wp_batch_Check ops h Q) : CallF PG fn_batch_Check [.slice ops.a ops.len ops.cap] (.one (.leaf (.int .i64))) h Q := callF_of PM ok_batch_Check (eq_batch_Check ops h Q ▸ w)

/- 74: dunnage/dunnageref10.Check; loop 9: [i]; loop 4: [i] -/
def tab_dunnageref10_Check : Tab := ⟨[(9, ⟨[(4, .leaf (.int .i64))], [2, 37, 38, 39, 40, 41, 42, 43, 44, 45, 46, 47, 48, 49]⟩), (4, ⟨[(3, .leaf (.int .i64))], [2, 8, 9, 10, 11, 12, 13, 14, 15, 16, 17, 18, 19, 20, 21, 22, 23, 24, 25, 26, 27, 28, 29, 30, 31, 32, 33, 34, 35, 36]⟩)], [], []⟩
def wp_dunnageref10_Check (ops : Sl) (h : Mem) (Q : Int → Mem → Prop) : Prop :=
  Br ((↑ops.len : Int) == 0) (Q 1 h)
    (∃ (I1 : Int → Mem → Prop),
      ∃ (I2 : Int → Mem → Nat),
        I1 0 h ∧
          ∀ (j3 : Fr) (n4 : Int) (h5 : Mem),
            I1 n4 h5 →
              Br (decide (n4 < (↑ops.len : Int)))
                (Idx ops.a ops.len n4 fun (p6 : Addr) =>
                  Ld PG ty_string (p6.add (n4.toNat * 3)) (Kd.one (Cmp.leaf Leaf.str)) h5 fun (t7 : ByteArray) =>
                    CallF PG fn_dunnageref09_May [Value.string t7] (Kd.one (Cmp.leaf Leaf.bool)) h5 fun (b8 : Bool) (h9 : Mem) =>
                      Br (!b8) (Q 1 h9)
                        (Idx ops.a ops.len n4 fun (p10 : Addr) =>
                          Ld PG ty_bool ((p10.add (n4.toNat * 3)).add 2) (Kd.one (Cmp.leaf Leaf.bool)) h9 fun (b11 : Bool) =>
                            Br b11
                              (Idx ops.a ops.len n4 fun (p12 : Addr) =>
                                Ld PG ty_sl_uint8 ((p12.add (n4.toNat * 3)).add 1) (Kd.one (Cmp.leaf Leaf.sl)) h9 fun (s13 : Sl) =>
                                  Br (decide ((↑s13.len : Int) > 0)) (Q 1 h9) (I1 (IntKind.i64.wrap (n4 + 1)) h9 ∧ I2 (IntKind.i64.wrap (n4 + 1)) h9 < I2 n4 h5))
                              (I1 (IntKind.i64.wrap (n4 + 1)) h9 ∧ I2 (IntKind.i64.wrap (n4 + 1)) h9 < I2 n4 h5)))
                (∃ (I14 : Int → Mem → Prop),
                  ∃ (I15 : Int → Mem → Nat),
                    I14 0 h5 ∧
                      ∀ (j16 : Fr) (n17 : Int) (h18 : Mem),
                        I14 n17 h18 →
                          Br (decide (n17 < (↑ops.len : Int)))
                            (Idx ops.a ops.len n17 fun (p19 : Addr) =>
                              Ld PG ty_sl_uint8 ((p19.add (n17.toNat * 3)).add 1) (Kd.one (Cmp.leaf Leaf.sl)) h18 fun (s20 : Sl) =>
                                Br (decide ((↑s20.len : Int) > 4096)) (Q 4 h18) (I14 (IntKind.i64.wrap (n17 + 1)) h18 ∧ I15 (IntKind.i64.wrap (n17 + 1)) h18 < I15 n17 h18))
                            (Br (decide ((↑ops.len : Int) > 32)) (Q 4 h18)
                              (CallF PG fn_dunnageref10_Size [Value.slice ops.a ops.len ops.cap] (Kd.one (Cmp.leaf (Leaf.int IntKind.i64))) h18 fun (n21 : Int) (h22 : Mem) =>
                                Br (decide (n21 > 32768)) (Q 4 h22) (Q 0 h22)))))
theorem eq_dunnageref10_Check (ops : Sl) (h : Mem) (Q : Int → Mem → Prop) : wp_dunnageref10_Check ops h Q = evFn PG fn_dunnageref10_Check tab_dunnageref10_Check [.slice ops.a ops.len ops.cap] (.one (.leaf (.int .i64))) h Q := by kernel_rfl
theorem ok_dunnageref10_Check : okF PG fn_dunnageref10_Check tab_dunnageref10_Check = true := by kernel_rfl
theorem call_dunnageref10_Check {ops : Sl} {h : Mem} {Q : Int → Mem → Prop} (w : wp_dunnageref10_Check ops h Q) : CallF PG fn_dunnageref10_Check [.slice ops.a ops.len ops.cap] (.one (.leaf (.int .i64))) h Q := callF_of PM ok_dunnageref10_Check (eq_dunnageref10_Check ops h Q ▸ w)

/- 75: dunnage/batch.Size; loop 3: [n, ] -/
def tab_batch_Size : Tab := ⟨[(3, ⟨[(3, .leaf (.int .i64)), (8, .leaf (.int .i64))], [5, 9, 10, 11, 12, 13, 14, 15, 16, 17, 18, 19, 20, 21, 22]⟩)], [], []⟩
def wp_batch_Size (ops : Sl) (h : Mem) (Q : Int → Mem → Prop) : Prop :=
  ∃ (I1 : Int → Int → Mem → Prop),
    ∃ (I2 : Int → Int → Mem → Nat),
      I1 0 0 h ∧
        ∀ (j3 : Fr) (n4 n5 : Int) (h6 : Mem),
          I1 n4 n5 h6 →
            Br (decide (n5 < (↑ops.len : Int)))
              (Idx ops.a ops.len n5 fun (p7 : Addr) =>
                Ld PG ty_api_Op (p7.add (n5.toNat * 3)) (Kd.one (Cmp.agg [Leaf.str, Leaf.sl, Leaf.bool])) h6 fun (t8 : ByteArray) (s9 : Sl) (b10 : Bool) =>
                  New (Obj.cells #[Value.string (ByteArray.mk #[]), Value.slice none 0 0, Value.bool false] ty_api_Op) h6 fun (k11 : Nat) (h12 : Mem) =>
                    St PG ty_api_Op (Addr.mk k11 0 none) (Value.agg #[Value.string t8, Value.slice s9.a s9.len s9.cap, Value.bool b10]) h12 fun (h13 : Mem) =>
                      Ld PG ty_string (Addr.mk k11 0 none) (Kd.one (Cmp.leaf Leaf.str)) h13 fun (t14 : ByteArray) =>
                        Ld PG ty_sl_uint8 ((Addr.mk k11 0 none).add 1) (Kd.one (Cmp.leaf Leaf.sl)) h13 fun (s15 : Sl) =>
                          I1
                              (if 2147483647 < IntKind.i64.wrap (IntKind.i64.wrap (n4 + (↑t14.size : Int)) + (↑s15.len : Int)) then 2147483647
                              else IntKind.i64.wrap (IntKind.i64.wrap (n4 + (↑t14.size : Int)) + (↑s15.len : Int)))
                              (IntKind.i64.wrap (n5 + 1)) h13 ∧
                            I2
                                (if 2147483647 < IntKind.i64.wrap (IntKind.i64.wrap (n4 + (↑t14.size : Int)) + (↑s15.len : Int)) then 2147483647
                                else IntKind.i64.wrap (IntKind.i64.wrap (n4 + (↑t14.size : Int)) + (↑s15.len : Int)))
                                (IntKind.i64.wrap (n5 + 1)) h13 <
                              I2 n4 n5 h6)
              (Q n4 h6)
theorem eq_batch_Size (ops : Sl) (h : Mem) (Q : Int → Mem → Prop) : wp_batch_Size ops h Q = evFn PG fn_batch_Size tab_batch_Size [.slice ops.a ops.len ops.cap] (.one (.leaf (.int .i64))) h Q := by kernel_rfl
theorem ok_batch_Size : okF PG fn_batch_Size tab_batch_Size = true := by kernel_rfl
theorem call_batch_Size {ops : Sl} {h : Mem} {Q : Int → Mem → Prop} (w : wp_batch_Size ops h Q) : CallF PG fn_batch_Size [.slice ops.a ops.len ops.cap] (.one (.leaf (.int .i64))) h Q := callF_of PM ok_batch_Size (eq_batch_Size ops h Q ▸ w)

/- 76: dunnage/dunnageref10.Size; loop 3: [n, i] -/
def tab_dunnageref10_Size : Tab := ⟨[(3, ⟨[(3, .leaf (.int .i64)), (4, .leaf (.int .i64))], [5, 6, 7, 8, 9, 10, 11, 12, 13, 14, 15, 16, 17, 18, 19, 20, 21, 22, 23, 24, 25, 26, 27, 28]⟩)], [], []⟩
def wp_dunnageref10_Size (ops : Sl) (h : Mem) (Q : Int → Mem → Prop) : Prop :=
  ∃ (I1 : Int → Int → Mem → Prop),
    ∃ (I2 : Int → Int → Mem → Nat),
      I1 0 0 h ∧
        ∀ (j3 : Fr) (n4 n5 : Int) (h6 : Mem),
          I1 n4 n5 h6 →
            Br (decide (n5 < (↑ops.len : Int)))
              (Idx ops.a ops.len n5 fun (p7 : Addr) =>
                Ld PG ty_string (p7.add (n5.toNat * 3)) (Kd.one (Cmp.leaf Leaf.str)) h6 fun (t8 : ByteArray) =>
                  Idx ops.a ops.len n5 fun (p9 : Addr) =>
                    Ld PG ty_sl_uint8 ((p9.add (n5.toNat * 3)).add 1) (Kd.one (Cmp.leaf Leaf.sl)) h6 fun (s10 : Sl) =>
                      I1
                          (if
                              IntKind.i64.wrap
                                  (IntKind.i64.wrap (n4 + if (↑t8.size : Int) < 2147483647 then (↑t8.size : Int) else 2147483647) +
                                    if (↑s10.len : Int) < 2147483647 then (↑s10.len : Int) else 2147483647) <
                                2147483647 then
                            IntKind.i64.wrap
                              (IntKind.i64.wrap (n4 + if (↑t8.size : Int) < 2147483647 then (↑t8.size : Int) else 2147483647) +
                                if (↑s10.len : Int) < 2147483647 then (↑s10.len : Int) else 2147483647)
                          else 2147483647)
                          (IntKind.i64.wrap (n5 + 1)) h6 ∧
                        I2
                            (if
                                IntKind.i64.wrap
                                    (IntKind.i64.wrap (n4 + if (↑t8.size : Int) < 2147483647 then (↑t8.size : Int) else 2147483647) +
                                      if (↑s10.len : Int) < 2147483647 then (↑s10.len : Int) else 2147483647) <
                                  2147483647 then
                              IntKind.i64.wrap
                                (IntKind.i64.wrap (n4 + if (↑t8.size : Int) < 2147483647 then (↑t8.size : Int) else 2147483647) +
                                  if (↑s10.len : Int) < 2147483647 then (↑s10.len : Int) else 2147483647)
                            else 2147483647)
                            (IntKind.i64.wrap (n5 + 1)) h6 <
                          I2 n4 n5 h6)
              (Q n4 h6)
theorem eq_dunnageref10_Size (ops : Sl) (h : Mem) (Q : Int → Mem → Prop) : wp_dunnageref10_Size ops h Q = evFn PG fn_dunnageref10_Size tab_dunnageref10_Size [.slice ops.a ops.len ops.cap] (.one (.leaf (.int .i64))) h Q := by kernel_rfl
theorem ok_dunnageref10_Size : okF PG fn_dunnageref10_Size tab_dunnageref10_Size = true := by kernel_rfl
theorem call_dunnageref10_Size {ops : Sl} {h : Mem} {Q : Int → Mem → Prop} (w : wp_dunnageref10_Size ops h Q) : CallF PG fn_dunnageref10_Size [.slice ops.a ops.len ops.cap] (.one (.leaf (.int .i64))) h Q := callF_of PM ok_dunnageref10_Size (eq_dunnageref10_Size ops h Q ▸ w)

/- 78: dunnage/dunnagehelp.Op -/
def tab_dunnagehelp_Op : Tab := ⟨[], [], []⟩
def wp_dunnagehelp_Op (a_0 : ByteArray) (a_1 : Sl) (a_2 : Bool) (b_0 : ByteArray) (b_1 : Sl) (b_2 : Bool) (h : Mem) (Q : Bool → Mem → Prop) : Prop :=
  New (Obj.cells #[Value.string a_0, Value.slice a_1.a a_1.len a_1.cap, Value.bool a_2] ty_api_Op) h fun (k1 : Nat) (h2 : Mem) =>
    New (Obj.cells #[Value.string b_0, Value.slice b_1.a b_1.len b_1.cap, Value.bool b_2] ty_api_Op) h2 fun (k3 : Nat) (h4 : Mem) =>
      Ld PG ty_string (Addr.mk k1 0 none) (Kd.one (Cmp.leaf Leaf.str)) h4 fun (t5 : ByteArray) =>
        Ld PG ty_string (Addr.mk k3 0 none) (Kd.one (Cmp.leaf Leaf.str)) h4 fun (t6 : ByteArray) =>
          Br (sEq t5 t6)
            (Ld PG ty_sl_uint8 ((Addr.mk k1 0 none).add 1) (Kd.one (Cmp.leaf Leaf.sl)) h4 fun (s7 : Sl) =>
              Ld PG ty_sl_uint8 ((Addr.mk k3 0 none).add 1) (Kd.one (Cmp.leaf Leaf.sl)) h4 fun (s8 : Sl) =>
                CallF PG fn_dunnagehelp_Bytes [Value.slice s7.a s7.len s7.cap, Value.slice s8.a s8.len s8.cap] (Kd.one (Cmp.leaf Leaf.bool)) h4 fun (b9 : Bool) (h10 : Mem) =>
                  Br b9
                    (Ld PG ty_bool ((Addr.mk k1 0 none).add 2) (Kd.one (Cmp.leaf Leaf.bool)) h10 fun (b11 : Bool) =>
                      Ld PG ty_bool ((Addr.mk k3 0 none).add 2) (Kd.one (Cmp.leaf Leaf.bool)) h10 fun (b12 : Bool) => Q (b11 == b12) h10)
                    (Q false h10))
            (Q false h4)
theorem eq_dunnagehelp_Op (a_0 : ByteArray) (a_1 : Sl) (a_2 : Bool) (b_0 : ByteArray) (b_1 : Sl) (b_2 : Bool) (h : Mem) (Q : Bool → Mem → Prop) : wp_dunnagehelp_Op a_0 a_1 a_2 b_0 b_1 b_2 h Q = evFn PG fn_dunnagehelp_Op tab_dunnagehelp_Op [.agg #[.string a_0, .slice a_1.a a_1.len a_1.cap, .bool a_2], .agg #[.string b_0, .slice b_1.a b_1.len b_1.cap, .bool b_2]] (.one (.leaf .bool)) h Q := by kernel_rfl
theorem ok_dunnagehelp_Op : okF PG fn_dunnagehelp_Op tab_dunnagehelp_Op = true := by kernel_rfl
theorem call_dunnagehelp_Op {a_0 : ByteArray} {a_1 : Sl} {a_2 : Bool} {b_0 : ByteArray} {b_1 : Sl} {b_2 : Bool} {h : Mem} {Q : Bool → Mem → Prop} (w : wp_dunnagehelp_Op a_0 a_1 a_2 b_0 b_1 b_2 h Q) : CallF PG fn_dunnagehelp_Op [.agg #[.string a_0, .slice a_1.a a_1.len a_1.cap, .bool a_2], .agg #[.string b_0, .slice b_1.a b_1.len b_1.cap, .bool b_2]] (.one (.leaf .bool)) h Q := callF_of PM ok_dunnagehelp_Op (eq_dunnagehelp_Op a_0 a_1 a_2 b_0 b_1 b_2 h Q ▸ w)

/- 79: dunnage/dunnageref10.MayRef -/
def tab_dunnageref10_MayRef : Tab := ⟨[], [], []⟩
def wp_dunnageref10_MayRef (r_0 : Int) (r_1 : Int) (r_2 : Int) (h : Mem) (Q : Bool → Mem → Prop) : Prop :=
  New (Obj.cells #[Value.int IntKind.u64 r_0, Value.int IntKind.i64 r_1, Value.int IntKind.i64 r_2] ty_api_Ref) h fun (k1 : Nat) (h2 : Mem) =>
    Ld PG ty_uint64 (Addr.mk k1 0 none) (Kd.one (Cmp.leaf (Leaf.int IntKind.u64))) h2 fun (n3 : Int) =>
      Br (decide (n3 ≥ 1))
        (Ld PG ty_int ((Addr.mk k1 0 none).add 1) (Kd.one (Cmp.leaf (Leaf.int IntKind.i64))) h2 fun (n4 : Int) =>
          Br (decide (n4 ≥ 0))
            (Ld PG ty_int ((Addr.mk k1 0 none).add 1) (Kd.one (Cmp.leaf (Leaf.int IntKind.i64))) h2 fun (n5 : Int) =>
              Br (decide (n5 ≤ 65536))
                (Ld PG ty_int ((Addr.mk k1 0 none).add 2) (Kd.one (Cmp.leaf (Leaf.int IntKind.i64))) h2 fun (n6 : Int) =>
                  Br (decide (n6 ≥ 0)) (Ld PG ty_int ((Addr.mk k1 0 none).add 2) (Kd.one (Cmp.leaf (Leaf.int IntKind.i64))) h2 fun (n7 : Int) => Q (decide (n7 ≤ 4096)) h2)
                    (Q false h2))
                (Q false h2))
            (Q false h2))
        (Q false h2)
theorem eq_dunnageref10_MayRef (r_0 : Int) (r_1 : Int) (r_2 : Int) (h : Mem) (Q : Bool → Mem → Prop) : wp_dunnageref10_MayRef r_0 r_1 r_2 h Q = evFn PG fn_dunnageref10_MayRef tab_dunnageref10_MayRef [.agg #[.int .u64 r_0, .int .i64 r_1, .int .i64 r_2]] (.one (.leaf .bool)) h Q := by kernel_rfl
theorem ok_dunnageref10_MayRef : okF PG fn_dunnageref10_MayRef tab_dunnageref10_MayRef = true := by kernel_rfl
theorem call_dunnageref10_MayRef {r_0 : Int} {r_1 : Int} {r_2 : Int} {h : Mem} {Q : Bool → Mem → Prop} (w : wp_dunnageref10_MayRef r_0 r_1 r_2 h Q) : CallF PG fn_dunnageref10_MayRef [.agg #[.int .u64 r_0, .int .i64 r_1, .int .i64 r_2]] (.one (.leaf .bool)) h Q := callF_of PM ok_dunnageref10_MayRef (eq_dunnageref10_MayRef r_0 r_1 r_2 h Q ▸ w)

/- 80: dunnage/word.Var; loop 2: [v, out] -/
def tab_word_Var : Tab := ⟨[(2, ⟨[(0, .leaf (.int .u64)), (3, .leaf .sl)], [4, 5, 6, 7, 8, 9, 10, 11, 12, 13]⟩)], [], []⟩
def wp_word_Var (v : Int) (h : Mem) (Q : Sl → Mem → Prop) : Prop :=
  ∃ (I1 : Int → Sl → Mem → Prop),
    ∃ (I2 : Int → Sl → Mem → Nat),
      I1 v (Sl.mk none 0 0) h ∧
        ∀ (j3 : Fr) (n4 : Int) (s5 : Sl) (h6 : Mem),
          I1 n4 s5 h6 →
            Br (decide (n4 ≥ 128))
              (New (Obj.cells #[Value.int IntKind.u8 (bitsOf BinOp.or IntKind.u8 (IntKind.u8.wrap n4) 128)] ty_uint8) h6 fun (k7 : Nat) (h8 : Mem) =>
                PrimT PG (Builtin.append_ #[ty_sl_uint8, ty_sl_uint8] ty_sl_uint8 #[Value.slice s5.a s5.len s5.cap, Value.slice (some (Addr.mk k7 0 none)) 1 1]) (Kd.one (Cmp.leaf Leaf.sl)) h8
                  fun (s9 : Sl) (h10 : Mem) =>
                  I1 (n4.fdiv (Int.ofNat 128)) (Sl.mk s9.a s9.len s9.cap) h10 ∧ I2 (n4.fdiv (Int.ofNat 128)) (Sl.mk s9.a s9.len s9.cap) h10 < I2 n4 s5 h6)
              (New (Obj.cells #[Value.int IntKind.u8 (IntKind.u8.wrap n4)] ty_uint8) h6 fun (k11 : Nat) (h12 : Mem) =>
                PrimT PG (Builtin.append_ #[ty_sl_uint8, ty_sl_uint8] ty_sl_uint8 #[Value.slice s5.a s5.len s5.cap, Value.slice (some (Addr.mk k11 0 none)) 1 1]) (Kd.one (Cmp.leaf Leaf.sl)) h12
                  fun (s13 : Sl) (h14 : Mem) => Q (Sl.mk s13.a s13.len s13.cap) h14)
theorem eq_word_Var (v : Int) (h : Mem) (Q : Sl → Mem → Prop) : wp_word_Var v h Q = evFn PG fn_word_Var tab_word_Var [.int .u64 v] (.one (.leaf .sl)) h Q := by kernel_rfl
theorem ok_word_Var : okF PG fn_word_Var tab_word_Var = true := by kernel_rfl
theorem call_word_Var {v : Int} {h : Mem} {Q : Sl → Mem → Prop} (w : wp_word_Var v h Q) : CallF PG fn_word_Var [.int .u64 v] (.one (.leaf .sl)) h Q := callF_of PM ok_word_Var (eq_word_Var v h Q ▸ w)

end Go.Dn.W
