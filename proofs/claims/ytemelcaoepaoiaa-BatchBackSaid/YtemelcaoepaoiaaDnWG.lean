/- What each function asks for: typed text, and the theorem that the code does it: the document's last operations. -/
import Derived.Test.YtemelcaoepaoiaaDnNames
set_option maxRecDepth 100000
set_option linter.unusedVariables false
namespace Go.Dn.W
open Go Go.Dn Go.Proofs

/- 77: dunnage/dunnageref10.Last; loop 3: [out, i]; join 4: [out]; join 6: [o]; loop 7: [at] -/
def tab_dunnageref10_Last : Tab := ⟨[(3, ⟨[(3, .leaf .sl), (4, .leaf (.int .i64))], [5, 6, 7, 8, 9, 10, 11, 12, 13, 14, 15, 16, 17, 18, 19, 20, 21, 22, 23, 24, 25, 26, 27, 28, 29, 30, 31, 32, 33, 34, 35, 36, 37, 38, 39, 40, 41, 42, 43, 44, 45, 46, 47, 48, 49, 50, 51, 52, 53, 54, 55, 56, 57, 58, 59, 60, 61, 62, 63, 64, 65, 66, 67, 68, 69, 70, 71, 72, 73, 74, 75, 76, 77, 78]⟩), (7, ⟨[(6, .leaf (.int .i64))], [31, 32, 33, 34, 35, 36, 37, 38, 39, 40, 41, 42, 43, 44, 45, 46]⟩)], [(4, ⟨[(3, .leaf .sl)], [5, 6, 7, 14, 15, 16, 17, 18, 19, 20, 21, 22, 23, 24, 25, 26, 27, 28, 29, 30, 31, 32, 33, 34, 35, 36, 37, 38, 39, 40, 41, 42, 43, 44, 45, 46, 47, 48, 49, 50, 51, 52, 53, 54, 55, 56, 57, 58, 59, 60, 61, 62, 63, 64, 65, 66, 67, 68, 69, 70, 71, 72, 73, 74, 75, 76, 77, 78]⟩), (6, ⟨[(5, .leaf .ptr)], [14, 15, 16, 17, 18, 19, 20, 21, 22, 23, 24, 25, 26, 27, 28, 29, 30]⟩)], [(9, (chainT [(0, false), (1, false), (2, false), (3, false), (4, false)] (.join ⟨[(60, .leaf .bool)], [52, 53, 54, 55, 56, 57, 58, 59]⟩ (chainT [(5, false), (6, false), (7, false), (8, false), (9, false), (10, false), (11, false), (12, false), (13, false)] .nil) .nil))), (5, .nil)]⟩
def wp_dunnageref10_Last (ops : Sl) (h : Mem) (Q : Sl → Mem → Prop) : Prop :=
  ∃ (I1 : Sl → Int → Mem → Prop),
    ∃ (I2 : Sl → Int → Mem → Nat),
      I1 (Sl.mk none 0 0) 0 h ∧
        ∀ (j3 : Fr) (s4 : Sl) (n5 : Int) (h6 : Mem),
          I1 s4 n5 h6 →
            Br (decide (n5 < (↑ops.len : Int)))
              (∃ (I7 : Sl → Mem → Prop),
                (∀ (j8 : Fr) (s9 : Sl) (h10 : Mem),
                    I7 s9 h10 → I1 (Sl.mk s9.a s9.len s9.cap) (IntKind.i64.wrap (n5 + 1)) h10 ∧ I2 (Sl.mk s9.a s9.len s9.cap) (IntKind.i64.wrap (n5 + 1)) h10 < I2 s4 n5 h6) ∧
                  ∃ (I11 : Option Addr → Mem → Prop),
                    (∀ (j12 : Fr) (q13 : Option Addr) (h14 : Mem),
                        I11 q13 h14 →
                          ∃ (I15 : Int → Mem → Prop),
                            ∃ (I16 : Int → Mem → Nat),
                              I15 0 h14 ∧
                                ∀ (j17 : Fr) (n18 : Int) (h19 : Mem),
                                  I15 n18 h19 →
                                    Br (decide (n18 < (↑s4.len : Int)))
                                      (Idx s4.a s4.len n18 fun (p20 : Addr) =>
                                        Ld PG ty_string (p20.add (n18.toNat * 3)) (Kd.one (Cmp.leaf Leaf.str)) h19 fun (t21 : ByteArray) =>
                                          Deref q13 fun (p22 : Addr) =>
                                            Ld PG ty_string p22 (Kd.one (Cmp.leaf Leaf.str)) h19 fun (t23 : ByteArray) =>
                                              CallF PG fn_dunnageref09_Less [Value.string t21, Value.string t23] (Kd.one (Cmp.leaf Leaf.bool)) h19 fun (b24 : Bool) (h25 : Mem) =>
                                                Br b24 (I15 (IntKind.i64.wrap (n18 + 1)) h25 ∧ I16 (IntKind.i64.wrap (n18 + 1)) h25 < I16 n18 h19)
                                                  (∃ (I26 : Bool → Mem → Prop),
                                                    (∀ (j27 : Fr) (b28 : Bool) (h29 : Mem),
                                                        I26 b28 h29 →
                                                          Br b28
                                                            (Deref q13 fun (p30 : Addr) =>
                                                              Ld PG ty_api_Op p30 (Kd.one (Cmp.agg [Leaf.str, Leaf.sl, Leaf.bool])) h29
                                                                fun (t31 : ByteArray) (s32 : Sl) (b33 : Bool) =>
                                                                Idx s4.a s4.len n18 fun (p34 : Addr) =>
                                                                  St PG ty_api_Op (p34.add (n18.toNat * 3))
                                                                    (Value.agg #[Value.string t31, Value.slice s32.a s32.len s32.cap, Value.bool b33]) h29 fun (h35 : Mem) =>
                                                                    I7 (Sl.mk s4.a s4.len s4.cap) h35)
                                                            (Cut 3 s4.a s4.len s4.cap none (some n18) none fun (s36 : Sl) =>
                                                              PrimT PG (Builtin.append_ #[ty_sl_api_Op, ty_sl_api_Op] ty_sl_api_Op #[Value.slice none 0 0, Value.slice s36.a s36.len s36.cap])
                                                                (Kd.one (Cmp.leaf Leaf.sl)) h29 fun (s37 : Sl) (h38 : Mem) =>
                                                                Deref q13 fun (p39 : Addr) =>
                                                                  Ld PG ty_api_Op p39 (Kd.one (Cmp.agg [Leaf.str, Leaf.sl, Leaf.bool])) h38
                                                                    fun (t40 : ByteArray) (s41 : Sl) (b42 : Bool) =>
                                                                    New (Obj.cells #[Value.string t40, Value.slice s41.a s41.len s41.cap, Value.bool b42] ty_api_Op) h38
                                                                      fun (k43 : Nat) (h44 : Mem) =>
                                                                      PrimT PG
                                                                        (Builtin.append_ #[ty_sl_api_Op, ty_sl_api_Op] ty_sl_api_Op
                                                                          #[Value.slice s37.a s37.len s37.cap, Value.slice (some (Addr.mk k43 0 none)) 1 1])
                                                                        (Kd.one (Cmp.leaf Leaf.sl)) h44 fun (s45 : Sl) (h46 : Mem) =>
                                                                        Cut 3 s4.a s4.len s4.cap (some n18) none none fun (s47 : Sl) =>
                                                                          PrimT PG
                                                                            (Builtin.append_ #[ty_sl_api_Op, ty_sl_api_Op] ty_sl_api_Op #[Value.slice s45.a s45.len s45.cap, Value.slice s47.a s47.len s47.cap])
                                                                            (Kd.one (Cmp.leaf Leaf.sl)) h46 fun (s48 : Sl) (h49 : Mem) => I7 (Sl.mk s48.a s48.len s48.cap) h49)) ∧
                                                      Br (decide (n18 < (↑s4.len : Int)))
                                                        (Idx s4.a s4.len n18 fun (p50 : Addr) =>
                                                          Ld PG ty_string (p50.add (n18.toNat * 3)) (Kd.one (Cmp.leaf Leaf.str)) h25 fun (t51 : ByteArray) =>
                                                            Deref q13 fun (p52 : Addr) =>
                                                              Ld PG ty_string p52 (Kd.one (Cmp.leaf Leaf.str)) h25 fun (t53 : ByteArray) => I26 (sEq t51 t53) h25)
                                                        (I26 false h25)))
                                      (∃ (I54 : Bool → Mem → Prop),
                                        (∀ (j55 : Fr) (b56 : Bool) (h57 : Mem),
                                            I54 b56 h57 →
                                              Br b56
                                                (Deref q13 fun (p58 : Addr) =>
                                                  Ld PG ty_api_Op p58 (Kd.one (Cmp.agg [Leaf.str, Leaf.sl, Leaf.bool])) h57 fun (t59 : ByteArray) (s60 : Sl) (b61 : Bool) =>
                                                    Idx s4.a s4.len n18 fun (p62 : Addr) =>
                                                      St PG ty_api_Op (p62.add (n18.toNat * 3)) (Value.agg #[Value.string t59, Value.slice s60.a s60.len s60.cap, Value.bool b61]) h57
                                                        fun (h63 : Mem) => I7 (Sl.mk s4.a s4.len s4.cap) h63)
                                                (Cut 3 s4.a s4.len s4.cap none (some n18) none fun (s64 : Sl) =>
                                                  PrimT PG (Builtin.append_ #[ty_sl_api_Op, ty_sl_api_Op] ty_sl_api_Op #[Value.slice none 0 0, Value.slice s64.a s64.len s64.cap]) (Kd.one (Cmp.leaf Leaf.sl))
                                                    h57 fun (s65 : Sl) (h66 : Mem) =>
                                                    Deref q13 fun (p67 : Addr) =>
                                                      Ld PG ty_api_Op p67 (Kd.one (Cmp.agg [Leaf.str, Leaf.sl, Leaf.bool])) h66 fun (t68 : ByteArray) (s69 : Sl) (b70 : Bool) =>
                                                        New (Obj.cells #[Value.string t68, Value.slice s69.a s69.len s69.cap, Value.bool b70] ty_api_Op) h66 fun (k71 : Nat) (h72 : Mem) =>
                                                          PrimT PG
                                                            (Builtin.append_ #[ty_sl_api_Op, ty_sl_api_Op] ty_sl_api_Op #[Value.slice s65.a s65.len s65.cap, Value.slice (some (Addr.mk k71 0 none)) 1 1])
                                                            (Kd.one (Cmp.leaf Leaf.sl)) h72 fun (s73 : Sl) (h74 : Mem) =>
                                                            Cut 3 s4.a s4.len s4.cap (some n18) none none fun (s75 : Sl) =>
                                                              PrimT PG (Builtin.append_ #[ty_sl_api_Op, ty_sl_api_Op] ty_sl_api_Op #[Value.slice s73.a s73.len s73.cap, Value.slice s75.a s75.len s75.cap])
                                                                (Kd.one (Cmp.leaf Leaf.sl)) h74 fun (s76 : Sl) (h77 : Mem) => I7 (Sl.mk s76.a s76.len s76.cap) h77)) ∧
                                          Br (decide (n18 < (↑s4.len : Int)))
                                            (Idx s4.a s4.len n18 fun (p78 : Addr) =>
                                              Ld PG ty_string (p78.add (n18.toNat * 3)) (Kd.one (Cmp.leaf Leaf.str)) h19 fun (t79 : ByteArray) =>
                                                Deref q13 fun (p80 : Addr) => Ld PG ty_string p80 (Kd.one (Cmp.leaf Leaf.str)) h19 fun (t81 : ByteArray) => I54 (sEq t79 t81) h19)
                                            (I54 false h19))) ∧
                      Idx ops.a ops.len n5 fun (p82 : Addr) =>
                        Ld PG ty_string (p82.add (n5.toNat * 3)) (Kd.one (Cmp.leaf Leaf.str)) h6 fun (t83 : ByteArray) =>
                          Idx ops.a ops.len n5 fun (p84 : Addr) =>
                            Ld PG ty_sl_uint8 ((p84.add (n5.toNat * 3)).add 1) (Kd.one (Cmp.leaf Leaf.sl)) h6 fun (s85 : Sl) =>
                              Idx ops.a ops.len n5 fun (p86 : Addr) =>
                                Ld PG ty_bool ((p86.add (n5.toNat * 3)).add 2) (Kd.one (Cmp.leaf Leaf.bool)) h6 fun (b87 : Bool) =>
                                  (CallF PG fn_dunnagehelp_CopyBytes [Value.slice s85.a s85.len s85.cap] (Kd.one (Cmp.leaf Leaf.sl)) h6 fun (s88 : Sl) (h89 : Mem) =>
                                      (Ld PG ty_bool ((p86.add (n5.toNat * 3)).add 2) (Kd.one (Cmp.leaf Leaf.bool)) h89 fun (b90 : Bool) => Value.bool b90 = Value.bool b87) ∧
                                        (Ld PG ty_string (p82.add (n5.toNat * 3)) (Kd.one (Cmp.leaf Leaf.str)) h89 fun (t91 : ByteArray) => Value.string t91 = Value.string t83) ∧
                                          New (Obj.cells #[Value.string (ByteArray.mk #[]), Value.slice none 0 0, Value.bool false] ty_api_Op) h89 fun (k92 : Nat) (h93 : Mem) =>
                                            (Ld PG ty_bool ((p86.add (n5.toNat * 3)).add 2) (Kd.one (Cmp.leaf Leaf.bool)) h93 fun (b94 : Bool) => Value.bool b94 = Value.bool b87) ∧
                                              (Ld PG ty_string (p82.add (n5.toNat * 3)) (Kd.one (Cmp.leaf Leaf.str)) h93 fun (t95 : ByteArray) => Value.string t95 = Value.string t83) ∧
                                                St PG ty_api_Op (Addr.mk k92 0 none) (Value.agg #[Value.string t83, Value.slice s88.a s88.len s88.cap, Value.bool b87]) h93
                                                  fun (h96 : Mem) => I11 (some (Addr.mk k92 0 none)) h96) ∧
                                    New (Obj.cells #[Value.string (ByteArray.mk #[]), Value.slice none 0 0, Value.bool false] ty_api_Op) h6 fun (k97 : Nat) (h98 : Mem) =>
                                      (Ld PG ty_bool ((p86.add (n5.toNat * 3)).add 2) (Kd.one (Cmp.leaf Leaf.bool)) h98 fun (b99 : Bool) => Value.bool b99 = Value.bool b87) ∧
                                        (Ld PG ty_sl_uint8 ((p84.add (n5.toNat * 3)).add 1) (Kd.one (Cmp.leaf Leaf.sl)) h98 fun (s100 : Sl) =>
                                            Value.slice s100.a s100.len s100.cap = Value.slice s85.a s85.len s85.cap) ∧
                                          (Ld PG ty_string (p82.add (n5.toNat * 3)) (Kd.one (Cmp.leaf Leaf.str)) h98 fun (t101 : ByteArray) => Value.string t101 = Value.string t83) ∧
                                            CallF PG fn_dunnagehelp_CopyBytes [Value.slice s85.a s85.len s85.cap] (Kd.one (Cmp.leaf Leaf.sl)) h98 fun (s102 : Sl) (h103 : Mem) =>
                                              (Ld PG ty_bool ((p86.add (n5.toNat * 3)).add 2) (Kd.one (Cmp.leaf Leaf.bool)) h103 fun (b104 : Bool) =>
                                                  Value.bool b104 = Value.bool b87) ∧
                                                (Ld PG ty_string (p82.add (n5.toNat * 3)) (Kd.one (Cmp.leaf Leaf.str)) h103 fun (t105 : ByteArray) =>
                                                    Value.string t105 = Value.string t83) ∧
                                                  St PG ty_api_Op (Addr.mk k97 0 none) (Value.agg #[Value.string t83, Value.slice s102.a s102.len s102.cap, Value.bool b87]) h103
                                                    fun (h106 : Mem) => I11 (some (Addr.mk k97 0 none)) h106)
              (Q (Sl.mk s4.a s4.len s4.cap) h6)
theorem eq_dunnageref10_Last (ops : Sl) (h : Mem) (Q : Sl → Mem → Prop) : wp_dunnageref10_Last ops h Q = evFn PG fn_dunnageref10_Last tab_dunnageref10_Last [.slice ops.a ops.len ops.cap] (.one (.leaf .sl)) h Q := by kernel_rfl
theorem ok_dunnageref10_Last : okF PG fn_dunnageref10_Last tab_dunnageref10_Last = true := by kernel_rfl
theorem call_dunnageref10_Last {ops : Sl} {h : Mem} {Q : Sl → Mem → Prop} (w : wp_dunnageref10_Last ops h Q) : CallF PG fn_dunnageref10_Last [.slice ops.a ops.len ops.cap] (.one (.leaf .sl)) h Q := callF_of PM ok_dunnageref10_Last (eq_dunnageref10_Last ops h Q ▸ w)

end Go.Dn.W
