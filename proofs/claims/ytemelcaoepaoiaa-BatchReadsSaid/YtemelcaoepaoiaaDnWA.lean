/- What each function asks for: typed text, and the theorem that the code does it. -/
import Derived.Test.YtemelcaoepaoiaaDnNames
set_option maxRecDepth 100000
set_option linter.unusedVariables false
namespace Go.Dn.W
open Go Go.Dn Go.Proofs

/- 9: dunnage/dunnagelaw10.BatchWrites -/
def tab_dunnagelaw10_BatchWrites : Tab := ⟨[], [], []⟩
def wp_dunnagelaw10_BatchWrites (r_0 : Int) (r_1 : Int) (r_2 : Sl) (r_3 : Int) (r_4 : Int) (r_5 : Int) (r_6 : Int) (h : Mem) (Q : Bool → Mem → Prop) : Prop :=
  New
    (Obj.cells
      #[Value.int IntKind.i64 r_0, Value.int IntKind.u64 r_1, Value.slice r_2.a r_2.len r_2.cap, Value.int IntKind.u64 r_3, Value.int IntKind.i64 r_4, Value.int IntKind.i64 r_5,
        Value.int IntKind.i64 r_6]
      38)
    h fun (k1 : Nat) (h2 : Mem) =>
    Ld PG ty_api_Record (Addr.mk k1 0 none)
      (Kd.one (Cmp.agg [Leaf.int IntKind.i64, Leaf.int IntKind.u64, Leaf.sl, Leaf.int IntKind.u64, Leaf.int IntKind.i64, Leaf.int IntKind.i64, Leaf.int IntKind.i64])) h2
      fun (n3 n4 : Int) (s5 : Sl) (n6 n7 n8 n9 : Int) =>
      New
        (Obj.cells
          #[Value.int IntKind.i64 0, Value.int IntKind.u64 0, Value.slice none 0 0, Value.int IntKind.u64 0, Value.int IntKind.i64 0, Value.int IntKind.i64 0,
            Value.int IntKind.i64 0]
          38)
        h2 fun (k10 : Nat) (h11 : Mem) =>
        St PG ty_api_Record (Addr.mk k10 0 none)
          (Value.agg
            #[Value.int IntKind.i64 n3, Value.int IntKind.u64 n4, Value.slice s5.a s5.len s5.cap, Value.int IntKind.u64 n6, Value.int IntKind.i64 n7, Value.int IntKind.i64 n8,
              Value.int IntKind.i64 n9])
          h11 fun (h12 : Mem) =>
          Ld PG ty_sl_api_Change ((Addr.mk k1 0 none).add 2) (Kd.one (Cmp.leaf Leaf.sl)) h12 fun (s13 : Sl) =>
            CallF PG fn_dunnagehelp_Own_api_Change_ 
              [Value.slice s13.a s13.len s13.cap,
                Value.agg #[Value.string (ByteArray.mk #[55, 49]), Value.int IntKind.u64 0, Value.int IntKind.i64 0, Value.int IntKind.i64 0, Value.bool false]]
              (Kd.one (Cmp.leaf Leaf.sl)) h12 fun (s14 : Sl) (h15 : Mem) =>
              St PG ty_sl_api_Change ((Addr.mk k10 0 none).add 2) (Value.slice s14.a s14.len s14.cap) h15 fun (h16 : Mem) =>
                Ld PG ty_api_Record (Addr.mk k10 0 none)
                  (Kd.one (Cmp.agg [Leaf.int IntKind.i64, Leaf.int IntKind.u64, Leaf.sl, Leaf.int IntKind.u64, Leaf.int IntKind.i64, Leaf.int IntKind.i64, Leaf.int IntKind.i64])) h16
                  fun (n17 n18 : Int) (s19 : Sl) (n20 n21 n22 n23 : Int) =>
                  CallF PG fn_batch_Write 
                    [Value.agg
                        #[Value.int IntKind.i64 n17, Value.int IntKind.u64 n18, Value.slice s19.a s19.len s19.cap, Value.int IntKind.u64 n20, Value.int IntKind.i64 n21,
                          Value.int IntKind.i64 n22, Value.int IntKind.i64 n23]]
                    (Kd.tup [Cmp.leaf Leaf.sl, Cmp.leaf (Leaf.int IntKind.i64)]) h16 fun (s24 : Sl) (n25 : Int) (h26 : Mem) =>
                    Ld PG ty_api_Record (Addr.mk k1 0 none)
                      (Kd.one (Cmp.agg [Leaf.int IntKind.i64, Leaf.int IntKind.u64, Leaf.sl, Leaf.int IntKind.u64, Leaf.int IntKind.i64, Leaf.int IntKind.i64, Leaf.int IntKind.i64]))
                      h26 fun (n27 n28 : Int) (s29 : Sl) (n30 n31 n32 n33 : Int) =>
                      CallF PG fn_dunnageref10_Write 
                        [Value.agg
                            #[Value.int IntKind.i64 n27, Value.int IntKind.u64 n28, Value.slice s29.a s29.len s29.cap, Value.int IntKind.u64 n30, Value.int IntKind.i64 n31,
                              Value.int IntKind.i64 n32, Value.int IntKind.i64 n33]]
                        (Kd.tup [Cmp.leaf Leaf.sl, Cmp.leaf (Leaf.int IntKind.i64)]) h26 fun (s34 : Sl) (n35 : Int) (h36 : Mem) =>
                        CallF PG fn_dunnagelaw10_awake [] (Kd.one (Cmp.leaf Leaf.bool)) h36 fun (b37 : Bool) (h38 : Mem) =>
                          Br b37
                            (Ld PG ty_api_Record (Addr.mk k10 0 none)
                              (Kd.one
                                (Cmp.agg
                                  [Leaf.int IntKind.i64, Leaf.int IntKind.u64, Leaf.sl, Leaf.int IntKind.u64, Leaf.int IntKind.i64, Leaf.int IntKind.i64, Leaf.int IntKind.i64]))
                              h38 fun (n39 n40 : Int) (s41 : Sl) (n42 n43 n44 n45 : Int) =>
                              Ld PG ty_api_Record (Addr.mk k1 0 none)
                                (Kd.one
                                  (Cmp.agg
                                    [Leaf.int IntKind.i64, Leaf.int IntKind.u64, Leaf.sl, Leaf.int IntKind.u64, Leaf.int IntKind.i64, Leaf.int IntKind.i64, Leaf.int IntKind.i64]))
                                h38 fun (n46 n47 : Int) (s48 : Sl) (n49 n50 n51 n52 : Int) =>
                                CallF PG fn_batch_May 
                                  [Value.agg
                                      #[Value.int IntKind.i64 n39, Value.int IntKind.u64 n40, Value.slice s41.a s41.len s41.cap, Value.int IntKind.u64 n42, Value.int IntKind.i64 n43,
                                        Value.int IntKind.i64 n44, Value.int IntKind.i64 n45]]
                                  (Kd.one (Cmp.leaf Leaf.bool)) h38 fun (b53 : Bool) (h54 : Mem) =>
                                  (Ld PG ty_api_Record (Addr.mk k1 0 none)
                                      (Kd.one
                                        (Cmp.agg
                                          [Leaf.int IntKind.i64, Leaf.int IntKind.u64, Leaf.sl, Leaf.int IntKind.u64, Leaf.int IntKind.i64, Leaf.int IntKind.i64,
                                            Leaf.int IntKind.i64]))
                                      h54 fun (n55 n56 : Int) (s57 : Sl) (n58 n59 n60 n61 : Int) =>
                                      Value.agg
                                          #[Value.int IntKind.i64 n55, Value.int IntKind.u64 n56, Value.slice s57.a s57.len s57.cap, Value.int IntKind.u64 n58,
                                            Value.int IntKind.i64 n59, Value.int IntKind.i64 n60, Value.int IntKind.i64 n61] =
                                        Value.agg
                                          #[Value.int IntKind.i64 n46, Value.int IntKind.u64 n47, Value.slice s48.a s48.len s48.cap, Value.int IntKind.u64 n49,
                                            Value.int IntKind.i64 n50, Value.int IntKind.i64 n51, Value.int IntKind.i64 n52]) ∧
                                    CallF PG fn_dunnageref10_May 
                                      [Value.agg
                                          #[Value.int IntKind.i64 n46, Value.int IntKind.u64 n47, Value.slice s48.a s48.len s48.cap, Value.int IntKind.u64 n49,
                                            Value.int IntKind.i64 n50, Value.int IntKind.i64 n51, Value.int IntKind.i64 n52]]
                                      (Kd.one (Cmp.leaf Leaf.bool)) h54 fun (b62 : Bool) (h63 : Mem) =>
                                      Br (b53 == b62)
                                        (CallF PG fn_dunnagehelp_Bytes [Value.slice s24.a s24.len s24.cap, Value.slice s34.a s34.len s34.cap] (Kd.one (Cmp.leaf Leaf.bool)) h63
                                          fun (b64 : Bool) (h65 : Mem) =>
                                          Br b64
                                            (Br (n25 == n35)
                                              (Ld PG ty_sl_api_Change ((Addr.mk k10 0 none).add 2) (Kd.one (Cmp.leaf Leaf.sl)) h65 fun (s66 : Sl) =>
                                                Ld PG ty_sl_api_Change ((Addr.mk k1 0 none).add 2) (Kd.one (Cmp.leaf Leaf.sl)) h65 fun (s67 : Sl) =>
                                                  CallF PG fn_dunnagehelp_Kept_api_Change_ 
                                                    [Value.slice s66.a s66.len s66.cap, Value.slice s67.a s67.len s67.cap,
                                                      Value.agg
                                                        #[Value.string (ByteArray.mk #[55, 49]), Value.int IntKind.u64 0, Value.int IntKind.i64 0, Value.int IntKind.i64 0,
                                                          Value.bool false]]
                                                    (Kd.one (Cmp.leaf Leaf.bool)) h65 fun (b68 : Bool) (h69 : Mem) => Q b68 h69)
                                              (Q false h65))
                                            (Q false h65))
                                        (Q false h63))
                            (Q false h38)
theorem eq_dunnagelaw10_BatchWrites (r_0 : Int) (r_1 : Int) (r_2 : Sl) (r_3 : Int) (r_4 : Int) (r_5 : Int) (r_6 : Int) (h : Mem) (Q : Bool → Mem → Prop) : wp_dunnagelaw10_BatchWrites r_0 r_1 r_2 r_3 r_4 r_5 r_6 h Q = evFn PG fn_dunnagelaw10_BatchWrites tab_dunnagelaw10_BatchWrites [.agg #[.int .i64 r_0, .int .u64 r_1, .slice r_2.a r_2.len r_2.cap, .int .u64 r_3, .int .i64 r_4, .int .i64 r_5, .int .i64 r_6]] (.one (.leaf .bool)) h Q := by kernel_rfl
theorem ok_dunnagelaw10_BatchWrites : okF PG fn_dunnagelaw10_BatchWrites tab_dunnagelaw10_BatchWrites = true := by kernel_rfl
theorem call_dunnagelaw10_BatchWrites {r_0 : Int} {r_1 : Int} {r_2 : Sl} {r_3 : Int} {r_4 : Int} {r_5 : Int} {r_6 : Int} {h : Mem} {Q : Bool → Mem → Prop} (w : wp_dunnagelaw10_BatchWrites r_0 r_1 r_2 r_3 r_4 r_5 r_6 h Q) : CallF PG fn_dunnagelaw10_BatchWrites [.agg #[.int .i64 r_0, .int .u64 r_1, .slice r_2.a r_2.len r_2.cap, .int .u64 r_3, .int .i64 r_4, .int .i64 r_5, .int .i64 r_6]] (.one (.leaf .bool)) h Q := callF_of PM ok_dunnagelaw10_BatchWrites (eq_dunnagelaw10_BatchWrites r_0 r_1 r_2 r_3 r_4 r_5 r_6 h Q ▸ w)

/- 10: dunnage/dunnagelaw11.PlainDoes; loop 7: [i] -/
def tab_dunnagelaw11_PlainDoes : Tab := ⟨[(7, ⟨[(11, .leaf (.int .i64))], [41, 42, 43, 44, 45, 46, 47, 48, 49, 50, 51, 52]⟩)], [], [(4, (chainT [(0, false), (1, false), (2, false)] (.join ⟨[(35, .leaf .bool)], [31, 32, 33, 34]⟩ (chainT [(3, false), (4, false), (5, false), (6, false), (7, false)] .nil) (chainT [(8, false), (9, false), (10, false), (11, false), (12, false)] .nil))))]⟩
def wp_dunnagelaw11_PlainDoes (l : Sl) (ops : Sl) (h : Mem) (Q : Bool → Mem → Prop) : Prop :=
  CallF PG fn_dunnagehelp_CopyPairs [Value.slice l.a l.len l.cap] (Kd.one (Cmp.leaf Leaf.sl)) h fun (s1 : Sl) (h2 : Mem) =>
    CallF PG fn_dunnagehelp_CopyOps [Value.slice ops.a ops.len ops.cap] (Kd.one (Cmp.leaf Leaf.sl)) h2 fun (s3 : Sl) (h4 : Mem) =>
      CallF PG fn_plain_Do [Value.slice s1.a s1.len s1.cap, Value.slice s3.a s3.len s3.cap] (Kd.tup [Cmp.leaf Leaf.sl, Cmp.leaf (Leaf.int IntKind.i64)]) h4
        fun (s5 : Sl) (n6 : Int) (h7 : Mem) =>
        CallF PG fn_dunnageref11_Do [Value.slice l.a l.len l.cap, Value.slice ops.a ops.len ops.cap] (Kd.tup [Cmp.leaf Leaf.sl, Cmp.leaf (Leaf.int IntKind.i64)]) h7
          fun (s8 : Sl) (n9 : Int) (h10 : Mem) =>
          CallF PG fn_dunnagelaw11_awake [] (Kd.one (Cmp.leaf Leaf.bool)) h10 fun (b11 : Bool) (h12 : Mem) =>
            ∃ (I13 : Bool → Mem → Prop),
              (∀ (j14 : Fr) (b15 : Bool) (h16 : Mem),
                  I13 b15 h16 →
                    Br b15 (Q false h16)
                      (Br (n6 != n9) (Q false h16)
                        (∃ (I17 : Int → Mem → Prop),
                          ∃ (I18 : Int → Mem → Nat),
                            I17 0 h16 ∧
                              ∀ (j19 : Fr) (n20 : Int) (h21 : Mem),
                                I17 n20 h21 →
                                  Br (decide (n20 < (↑s5.len : Int)))
                                    (Idx s5.a s5.len n20 fun (p22 : Addr) =>
                                      Ld PG ty_sl_uint8 ((p22.add (n20.toNat * 2)).add 1) (Kd.one (Cmp.leaf Leaf.sl)) h21 fun (s23 : Sl) =>
                                        CallF PG fn_dunnagehelp_Spoil [Value.slice s23.a s23.len s23.cap] (Kd.tup []) h21 fun (h24 : Mem) =>
                                          I17 (IntKind.i64.wrap (n20 + 1)) h24 ∧ I18 (IntKind.i64.wrap (n20 + 1)) h24 < I18 n20 h21)
                                    (CallF PG fn_dunnagehelp_Pairs [Value.slice s1.a s1.len s1.cap, Value.slice l.a l.len l.cap] (Kd.one (Cmp.leaf Leaf.bool)) h21 fun (b25 : Bool) (h26 : Mem) =>
                                      Br b25
                                        (CallF PG fn_dunnagehelp_Ops [Value.slice s3.a s3.len s3.cap, Value.slice ops.a ops.len ops.cap] (Kd.one (Cmp.leaf Leaf.bool)) h26
                                          fun (b27 : Bool) (h28 : Mem) => Q b27 h28)
                                        (Q false h26))))) ∧
                Br (!b11) (I13 true h12)
                  (CallF PG fn_dunnagehelp_Pairs [Value.slice s5.a s5.len s5.cap, Value.slice s8.a s8.len s8.cap] (Kd.one (Cmp.leaf Leaf.bool)) h12 fun (b29 : Bool) (h30 : Mem) =>
                    I13 (!b29) h30)
theorem eq_dunnagelaw11_PlainDoes (l : Sl) (ops : Sl) (h : Mem) (Q : Bool → Mem → Prop) : wp_dunnagelaw11_PlainDoes l ops h Q = evFn PG fn_dunnagelaw11_PlainDoes tab_dunnagelaw11_PlainDoes [.slice l.a l.len l.cap, .slice ops.a ops.len ops.cap] (.one (.leaf .bool)) h Q := by kernel_rfl
theorem ok_dunnagelaw11_PlainDoes : okF PG fn_dunnagelaw11_PlainDoes tab_dunnagelaw11_PlainDoes = true := by kernel_rfl
theorem call_dunnagelaw11_PlainDoes {l : Sl} {ops : Sl} {h : Mem} {Q : Bool → Mem → Prop} (w : wp_dunnagelaw11_PlainDoes l ops h Q) : CallF PG fn_dunnagelaw11_PlainDoes [.slice l.a l.len l.cap, .slice ops.a ops.len ops.cap] (.one (.leaf .bool)) h Q := callF_of PM ok_dunnagelaw11_PlainDoes (eq_dunnagelaw11_PlainDoes l ops h Q ▸ w)

/- 11: dunnage/dunnagelaw11.PlainBoth -/
def tab_dunnagelaw11_PlainBoth : Tab := ⟨[], [], [(2, (chainT [(0, false), (1, false), (2, false)] (.join ⟨[(25, .leaf .bool)], [23, 24]⟩ (chainT [(3, false), (4, false), (5, false)] .nil) .nil)))]⟩
def wp_dunnagelaw11_PlainBoth (l : Sl) (a : Sl) (b : Sl) (h : Mem) (Q : Bool → Mem → Prop) : Prop :=
  CallF PG fn_plain_Do [Value.slice l.a l.len l.cap, Value.slice a.a a.len a.cap] (Kd.tup [Cmp.leaf Leaf.sl, Cmp.leaf (Leaf.int IntKind.i64)]) h fun (s1 : Sl) (n2 : Int) (h3 : Mem) =>
    CallF PG fn_dunnagelaw11_awake [] (Kd.one (Cmp.leaf Leaf.bool)) h3 fun (b4 : Bool) (h5 : Mem) =>
      ∃ (I6 : Bool → Mem → Prop),
        (∀ (j7 : Fr) (b8 : Bool) (h9 : Mem),
            I6 b8 h9 →
              Br b8 (CallF PG fn_dunnagelaw11_awake [] (Kd.one (Cmp.leaf Leaf.bool)) h9 fun (b10 : Bool) (h11 : Mem) => Q b10 h11)
                (CallF PG fn_plain_Do [Value.slice s1.a s1.len s1.cap, Value.slice b.a b.len b.cap] (Kd.tup [Cmp.leaf Leaf.sl, Cmp.leaf (Leaf.int IntKind.i64)]) h9
                  fun (s12 : Sl) (n13 : Int) (h14 : Mem) =>
                  CallF PG fn_dunnagehelp_CopyOps [Value.slice a.a a.len a.cap] (Kd.one (Cmp.leaf Leaf.sl)) h14 fun (s15 : Sl) (h16 : Mem) =>
                    PrimT PG (Builtin.append_ #[ty_sl_api_Op, ty_sl_api_Op] ty_sl_api_Op #[Value.slice s15.a s15.len s15.cap, Value.slice b.a b.len b.cap]) (Kd.one (Cmp.leaf Leaf.sl)) h16
                      fun (s17 : Sl) (h18 : Mem) =>
                      CallF PG fn_plain_Do [Value.slice l.a l.len l.cap, Value.slice s17.a s17.len s17.cap] (Kd.tup [Cmp.leaf Leaf.sl, Cmp.leaf (Leaf.int IntKind.i64)]) h18
                        fun (s19 : Sl) (n20 : Int) (h21 : Mem) =>
                        Br (n13 != 0) (Q true h21)
                          (Br (n20 != 0) (Q true h21)
                            (CallF PG fn_dunnagehelp_Pairs [Value.slice s12.a s12.len s12.cap, Value.slice s19.a s19.len s19.cap] (Kd.one (Cmp.leaf Leaf.bool)) h21
                              fun (b22 : Bool) (h23 : Mem) => Q b22 h23)))) ∧
          Br (!b4) (I6 true h5) (I6 (n2 != 0) h5)
theorem eq_dunnagelaw11_PlainBoth (l : Sl) (a : Sl) (b : Sl) (h : Mem) (Q : Bool → Mem → Prop) : wp_dunnagelaw11_PlainBoth l a b h Q = evFn PG fn_dunnagelaw11_PlainBoth tab_dunnagelaw11_PlainBoth [.slice l.a l.len l.cap, .slice a.a a.len a.cap, .slice b.a b.len b.cap] (.one (.leaf .bool)) h Q := by kernel_rfl
theorem ok_dunnagelaw11_PlainBoth : okF PG fn_dunnagelaw11_PlainBoth tab_dunnagelaw11_PlainBoth = true := by kernel_rfl
theorem call_dunnagelaw11_PlainBoth {l : Sl} {a : Sl} {b : Sl} {h : Mem} {Q : Bool → Mem → Prop} (w : wp_dunnagelaw11_PlainBoth l a b h Q) : CallF PG fn_dunnagelaw11_PlainBoth [.slice l.a l.len l.cap, .slice a.a a.len a.cap, .slice b.a b.len b.cap] (.one (.leaf .bool)) h Q := callF_of PM ok_dunnagelaw11_PlainBoth (eq_dunnagelaw11_PlainBoth l a b h Q ▸ w)

/- 12: dunnage/dunnagelaw11.PlainOthers; loop 5: [i] -/
def tab_dunnagelaw11_PlainOthers : Tab := ⟨[(5, ⟨[(9, .leaf (.int .i64))], [6, 32, 33, 34, 35, 36, 37, 38, 39, 40, 41, 42, 43, 44]⟩)], [], [(3, (chainT [(0, false), (1, false)] (.join ⟨[(31, .leaf .bool)], [28, 29, 30]⟩ (chainT [(2, false), (3, false), (4, false), (5, false)] .nil) (chainT [(6, false)] .nil)))), (2, (chainT [(0, false), (1, false), (2, false)] (.join ⟨[(25, .leaf .bool)], [23, 24]⟩ (chainT [(3, false), (4, false), (5, false)] .nil) .nil)))]⟩
def wp_dunnagelaw11_PlainOthers (l : Sl) (ops : Sl) (key : ByteArray) (h : Mem) (Q : Bool → Mem → Prop) : Prop :=
  CallF PG fn_plain_Do [Value.slice l.a l.len l.cap, Value.slice ops.a ops.len ops.cap] (Kd.tup [Cmp.leaf Leaf.sl, Cmp.leaf (Leaf.int IntKind.i64)]) h
    fun (s1 : Sl) (n2 : Int) (h3 : Mem) =>
    CallF PG fn_dunnagelaw11_awake [] (Kd.one (Cmp.leaf Leaf.bool)) h3 fun (b4 : Bool) (h5 : Mem) =>
      ∃ (I6 : Bool → Mem → Prop),
        (∀ (j7 : Fr) (b8 : Bool) (h9 : Mem),
            I6 b8 h9 →
              Br b8
                (CallF PG fn_dunnagelaw11_awake [] (Kd.one (Cmp.leaf Leaf.bool)) h9 fun (b10 : Bool) (h11 : Mem) =>
                  ∃ (I12 : Bool → Mem → Prop), (∀ (j13 : Fr) (b14 : Bool) (h15 : Mem), I12 b14 h15 → Q b14 h15) ∧ Br b10 (I12 ((↑s1.len : Int) == 0) h11) (I12 false h11))
                (∃ (I16 : Int → Mem → Prop),
                  ∃ (I17 : Int → Mem → Nat),
                    I16 0 h9 ∧
                      ∀ (j18 : Fr) (n19 : Int) (h20 : Mem),
                        I16 n19 h20 →
                          Br (decide (n19 < (↑ops.len : Int)))
                            (Idx ops.a ops.len n19 fun (p21 : Addr) =>
                              Ld PG ty_string (p21.add (n19.toNat * 3)) (Kd.one (Cmp.leaf Leaf.str)) h20 fun (t22 : ByteArray) =>
                                Br (sEq t22 key) (Q true h20) (I16 (IntKind.i64.wrap (n19 + 1)) h20 ∧ I17 (IntKind.i64.wrap (n19 + 1)) h20 < I17 n19 h20))
                            (CallF PG fn_plain_Get [Value.slice l.a l.len l.cap, Value.string key] (Kd.tup [Cmp.leaf Leaf.sl, Cmp.leaf Leaf.bool]) h20
                              fun (s23 : Sl) (b24 : Bool) (h25 : Mem) =>
                              CallF PG fn_plain_Get [Value.slice s1.a s1.len s1.cap, Value.string key] (Kd.tup [Cmp.leaf Leaf.sl, Cmp.leaf Leaf.bool]) h25
                                fun (s26 : Sl) (b27 : Bool) (h28 : Mem) =>
                                CallF PG fn_dunnagehelp_Bytes [Value.slice s23.a s23.len s23.cap, Value.slice s26.a s26.len s26.cap] (Kd.one (Cmp.leaf Leaf.bool)) h28
                                  fun (b29 : Bool) (h30 : Mem) => Br b29 (Q (b24 == b27) h30) (Q false h30)))) ∧
          Br (!b4) (I6 true h5) (I6 (n2 != 0) h5)
theorem eq_dunnagelaw11_PlainOthers (l : Sl) (ops : Sl) (key : ByteArray) (h : Mem) (Q : Bool → Mem → Prop) : wp_dunnagelaw11_PlainOthers l ops key h Q = evFn PG fn_dunnagelaw11_PlainOthers tab_dunnagelaw11_PlainOthers [.slice l.a l.len l.cap, .slice ops.a ops.len ops.cap, .string key] (.one (.leaf .bool)) h Q := by kernel_rfl
theorem ok_dunnagelaw11_PlainOthers : okF PG fn_dunnagelaw11_PlainOthers tab_dunnagelaw11_PlainOthers = true := by kernel_rfl
theorem call_dunnagelaw11_PlainOthers {l : Sl} {ops : Sl} {key : ByteArray} {h : Mem} {Q : Bool → Mem → Prop} (w : wp_dunnagelaw11_PlainOthers l ops key h Q) : CallF PG fn_dunnagelaw11_PlainOthers [.slice l.a l.len l.cap, .slice ops.a ops.len ops.cap, .string key] (.one (.leaf .bool)) h Q := callF_of PM ok_dunnagelaw11_PlainOthers (eq_dunnagelaw11_PlainOthers l ops key h Q ▸ w)

/- 13: dunnage/dunnagelaw11.PlainOrder -/
def tab_dunnagelaw11_PlainOrder : Tab := ⟨[], [], [(4, (chainT [(0, false), (1, false)] (.join ⟨[(48, .leaf .bool)], [43, 44, 45, 46, 47]⟩ (chainT [(2, false), (3, false), (4, false), (5, false), (6, false), (7, false)] .nil) (chainT [(8, false)] .nil)))), (3, (chainT [(0, false), (1, false), (2, false)] (.join ⟨[(36, .leaf .bool)], [34, 35]⟩ (chainT [(3, false), (4, false), (5, false)] .nil) (chainT [(6, false)] (.join ⟨[(40, .leaf .bool)], [38, 39]⟩ (chainT [(7, false), (8, false), (9, false)] .nil) .nil)))))]⟩
def wp_dunnagelaw11_PlainOrder (l : Sl) (a_0 : ByteArray) (a_1 : Sl) (a_2 : Bool) (b_0 : ByteArray) (b_1 : Sl) (b_2 : Bool) (h : Mem) (Q : Bool → Mem → Prop) : Prop :=
  New (Obj.cells #[Value.string a_0, Value.slice a_1.a a_1.len a_1.cap, Value.bool a_2] ty_api_Op) h fun (k1 : Nat) (h2 : Mem) =>
    New (Obj.cells #[Value.string b_0, Value.slice b_1.a b_1.len b_1.cap, Value.bool b_2] ty_api_Op) h2 fun (k3 : Nat) (h4 : Mem) =>
      Ld PG ty_api_Op (Addr.mk k1 0 none) (Kd.one (Cmp.agg [Leaf.str, Leaf.sl, Leaf.bool])) h4 fun (t5 : ByteArray) (s6 : Sl) (b7 : Bool) =>
        Ld PG ty_api_Op (Addr.mk k3 0 none) (Kd.one (Cmp.agg [Leaf.str, Leaf.sl, Leaf.bool])) h4 fun (t8 : ByteArray) (s9 : Sl) (b10 : Bool) =>
          New (Obj.cells #[Value.string t5, Value.slice s6.a s6.len s6.cap, Value.bool b7, Value.string t8, Value.slice s9.a s9.len s9.cap, Value.bool b10] ty_api_Op) h4
            fun (k11 : Nat) (h12 : Mem) =>
            CallF PG fn_plain_Do [Value.slice l.a l.len l.cap, Value.slice (some (Addr.mk k11 0 none)) 2 2] (Kd.tup [Cmp.leaf Leaf.sl, Cmp.leaf (Leaf.int IntKind.i64)]) h12
              fun (s13 : Sl) (n14 : Int) (h15 : Mem) =>
              Ld PG ty_api_Op (Addr.mk k3 0 none) (Kd.one (Cmp.agg [Leaf.str, Leaf.sl, Leaf.bool])) h15 fun (t16 : ByteArray) (s17 : Sl) (b18 : Bool) =>
                Ld PG ty_api_Op (Addr.mk k1 0 none) (Kd.one (Cmp.agg [Leaf.str, Leaf.sl, Leaf.bool])) h15 fun (t19 : ByteArray) (s20 : Sl) (b21 : Bool) =>
                  New (Obj.cells #[Value.string t16, Value.slice s17.a s17.len s17.cap, Value.bool b18, Value.string t19, Value.slice s20.a s20.len s20.cap, Value.bool b21] ty_api_Op) h15
                    fun (k22 : Nat) (h23 : Mem) =>
                    CallF PG fn_plain_Do [Value.slice l.a l.len l.cap, Value.slice (some (Addr.mk k22 0 none)) 2 2] (Kd.tup [Cmp.leaf Leaf.sl, Cmp.leaf (Leaf.int IntKind.i64)]) h23
                      fun (s24 : Sl) (n25 : Int) (h26 : Mem) =>
                      CallF PG fn_dunnagelaw11_awake [] (Kd.one (Cmp.leaf Leaf.bool)) h26 fun (b27 : Bool) (h28 : Mem) =>
                        ∃ (I29 : Bool → Mem → Prop),
                          (∀ (j30 : Fr) (b31 : Bool) (h32 : Mem),
                              I29 b31 h32 →
                                ∃ (I33 : Bool → Mem → Prop),
                                  (∀ (j34 : Fr) (b35 : Bool) (h36 : Mem),
                                      I33 b35 h36 →
                                        Br b35
                                          (CallF PG fn_dunnagelaw11_awake [] (Kd.one (Cmp.leaf Leaf.bool)) h36 fun (b37 : Bool) (h38 : Mem) =>
                                            ∃ (I39 : Bool → Mem → Prop),
                                              (∀ (j40 : Fr) (b41 : Bool) (h42 : Mem), I39 b41 h42 → Q b41 h42) ∧ Br b37 (I39 ((n14 == 0) == (n25 == 0)) h38) (I39 false h38))
                                          (Ld PG ty_string (Addr.mk k1 0 none) (Kd.one (Cmp.leaf Leaf.str)) h36 fun (t43 : ByteArray) =>
                                            Ld PG ty_string (Addr.mk k3 0 none) (Kd.one (Cmp.leaf Leaf.str)) h36 fun (t44 : ByteArray) =>
                                              Br (!sEq t43 t44)
                                                (CallF PG fn_dunnagehelp_Pairs [Value.slice s13.a s13.len s13.cap, Value.slice s24.a s24.len s24.cap] (Kd.one (Cmp.leaf Leaf.bool)) h36
                                                  fun (b45 : Bool) (h46 : Mem) => Q b45 h46)
                                                (Ld PG ty_string (Addr.mk k1 0 none) (Kd.one (Cmp.leaf Leaf.str)) h36 fun (t47 : ByteArray) =>
                                                  CallF PG fn_plain_Get [Value.slice s13.a s13.len s13.cap, Value.string t47] (Kd.tup [Cmp.leaf Leaf.sl, Cmp.leaf Leaf.bool]) h36
                                                    fun (s48 : Sl) (b49 : Bool) (h50 : Mem) =>
                                                    Ld PG ty_string (Addr.mk k1 0 none) (Kd.one (Cmp.leaf Leaf.str)) h50 fun (t51 : ByteArray) =>
                                                      CallF PG fn_plain_Get [Value.slice s24.a s24.len s24.cap, Value.string t51] (Kd.tup [Cmp.leaf Leaf.sl, Cmp.leaf Leaf.bool]) h50
                                                        fun (s52 : Sl) (b53 : Bool) (h54 : Mem) =>
                                                        Ld PG ty_bool ((Addr.mk k3 0 none).add 2) (Kd.one (Cmp.leaf Leaf.bool)) h54 fun (b55 : Bool) =>
                                                          Br (b49 == !b55)
                                                            (Ld PG ty_bool ((Addr.mk k1 0 none).add 2) (Kd.one (Cmp.leaf Leaf.bool)) h54 fun (b56 : Bool) =>
                                                              Br (b53 == !b56)
                                                                (Ld PG ty_sl_uint8 ((Addr.mk k3 0 none).add 1) (Kd.one (Cmp.leaf Leaf.sl)) h54 fun (s57 : Sl) =>
                                                                  CallF PG fn_dunnagehelp_Bytes [Value.slice s48.a s48.len s48.cap, Value.slice s57.a s57.len s57.cap]
                                                                    (Kd.one (Cmp.leaf Leaf.bool)) h54 fun (b58 : Bool) (h59 : Mem) =>
                                                                    Br b58
                                                                      (Ld PG ty_sl_uint8 ((Addr.mk k1 0 none).add 1) (Kd.one (Cmp.leaf Leaf.sl)) h59 fun (s60 : Sl) =>
                                                                        CallF PG fn_dunnagehelp_Bytes [Value.slice s52.a s52.len s52.cap, Value.slice s60.a s60.len s60.cap]
                                                                          (Kd.one (Cmp.leaf Leaf.bool)) h59 fun (b61 : Bool) (h62 : Mem) => Q b61 h62)
                                                                      (Q false h59))
                                                                (Q false h54))
                                                            (Q false h54)))) ∧
                                    Br b31 (I33 true h32) (I33 (n25 != 0) h32)) ∧
                            Br (!b27) (I29 true h28) (I29 (n14 != 0) h28)
theorem eq_dunnagelaw11_PlainOrder (l : Sl) (a_0 : ByteArray) (a_1 : Sl) (a_2 : Bool) (b_0 : ByteArray) (b_1 : Sl) (b_2 : Bool) (h : Mem) (Q : Bool → Mem → Prop) : wp_dunnagelaw11_PlainOrder l a_0 a_1 a_2 b_0 b_1 b_2 h Q = evFn PG fn_dunnagelaw11_PlainOrder tab_dunnagelaw11_PlainOrder [.slice l.a l.len l.cap, .agg #[.string a_0, .slice a_1.a a_1.len a_1.cap, .bool a_2], .agg #[.string b_0, .slice b_1.a b_1.len b_1.cap, .bool b_2]] (.one (.leaf .bool)) h Q := by kernel_rfl
theorem ok_dunnagelaw11_PlainOrder : okF PG fn_dunnagelaw11_PlainOrder tab_dunnagelaw11_PlainOrder = true := by kernel_rfl
theorem call_dunnagelaw11_PlainOrder {l : Sl} {a_0 : ByteArray} {a_1 : Sl} {a_2 : Bool} {b_0 : ByteArray} {b_1 : Sl} {b_2 : Bool} {h : Mem} {Q : Bool → Mem → Prop} (w : wp_dunnagelaw11_PlainOrder l a_0 a_1 a_2 b_0 b_1 b_2 h Q) : CallF PG fn_dunnagelaw11_PlainOrder [.slice l.a l.len l.cap, .agg #[.string a_0, .slice a_1.a a_1.len a_1.cap, .bool a_2], .agg #[.string b_0, .slice b_1.a b_1.len b_1.cap, .bool b_2]] (.one (.leaf .bool)) h Q := callF_of PM ok_dunnagelaw11_PlainOrder (eq_dunnagelaw11_PlainOrder l a_0 a_1 a_2 b_0 b_1 b_2 h Q ▸ w)

/- 14: dunnage/dunnagelaw11.PlainScans -/
def tab_dunnagelaw11_PlainScans : Tab := ⟨[], [], [(3, (chainT [(0, false), (1, false)] (.join ⟨[(31, .leaf .bool)], [28, 29, 30]⟩ (chainT [(2, false), (3, false), (4, false), (5, false)] .nil) (chainT [(6, false)] .nil)))), (2, (chainT [(0, false), (1, false), (2, false)] (.join ⟨[(25, .leaf .bool)], [22, 23, 24]⟩ (chainT [(3, false), (4, false), (5, false), (6, false)] .nil) .nil)))]⟩
def wp_dunnagelaw11_PlainScans (l : Sl) (lo : ByteArray) (at' : ByteArray) (hi : ByteArray) (most : Int) (h : Mem) (Q : Bool → Mem → Prop) : Prop :=
  CallF PG fn_plain_Scan [Value.slice l.a l.len l.cap, Value.string lo, Value.string hi, Value.int IntKind.i64 2147483647] (Kd.one (Cmp.leaf Leaf.sl)) h fun (s1 : Sl) (h2 : Mem) =>
    CallF PG fn_dunnagelaw11_awake [] (Kd.one (Cmp.leaf Leaf.bool)) h2 fun (b3 : Bool) (h4 : Mem) =>
      ∃ (I5 : Bool → Mem → Prop),
        (∀ (j6 : Fr) (b7 : Bool) (h8 : Mem),
            I5 b7 h8 →
              Br b7
                (CallF PG fn_dunnagelaw11_awake [] (Kd.one (Cmp.leaf Leaf.bool)) h8 fun (b9 : Bool) (h10 : Mem) =>
                  ∃ (I11 : Bool → Mem → Prop), (∀ (j12 : Fr) (b13 : Bool) (h14 : Mem), I11 b13 h14 → Q b13 h14) ∧ Br b9 (I11 ((↑s1.len : Int) == 0) h10) (I11 false h10))
                (CallF PG fn_plain_Scan [Value.slice l.a l.len l.cap, Value.string lo, Value.string hi, Value.int IntKind.i64 most] (Kd.one (Cmp.leaf Leaf.sl)) h8
                  fun (s15 : Sl) (h16 : Mem) =>
                  Cut 2 s1.a s1.len s1.cap none (some (if (↑s1.len : Int) < if most > 0 then most else 0 then (↑s1.len : Int) else if most > 0 then most else 0)) none
                    fun (s17 : Sl) =>
                    CallF PG fn_dunnagehelp_Pairs [Value.slice s15.a s15.len s15.cap, Value.slice s17.a s17.len s17.cap] (Kd.one (Cmp.leaf Leaf.bool)) h16 fun (b18 : Bool) (h19 : Mem) =>
                      Br (!b18) (Q false h19)
                        (Br (sEq at' (ByteArray.mk #[])) (Q true h19)
                          (Br (sLt at' lo) (Q true h19)
                            (Br (!sEq hi (ByteArray.mk #[]))
                              (Br (!(sLt at' hi || sEq at' hi)) (Q true h19)
                                (CallF PG fn_plain_Scan [Value.slice l.a l.len l.cap, Value.string lo, Value.string at', Value.int IntKind.i64 2147483647] (Kd.one (Cmp.leaf Leaf.sl)) h19
                                  fun (s20 : Sl) (h21 : Mem) =>
                                  CallF PG fn_plain_Scan [Value.slice l.a l.len l.cap, Value.string at', Value.string hi, Value.int IntKind.i64 2147483647] (Kd.one (Cmp.leaf Leaf.sl)) h21
                                    fun (s22 : Sl) (h23 : Mem) =>
                                    PrimT PG (Builtin.append_ #[ty_sl_api_Pair, ty_sl_api_Pair] ty_sl_api_Pair #[Value.slice s20.a s20.len s20.cap, Value.slice s22.a s22.len s22.cap]) (Kd.one (Cmp.leaf Leaf.sl))
                                      h23 fun (s24 : Sl) (h25 : Mem) =>
                                      CallF PG fn_dunnagehelp_Pairs [Value.slice s24.a s24.len s24.cap, Value.slice s1.a s1.len s1.cap] (Kd.one (Cmp.leaf Leaf.bool)) h25
                                        fun (b26 : Bool) (h27 : Mem) => Q b26 h27))
                              (CallF PG fn_plain_Scan [Value.slice l.a l.len l.cap, Value.string lo, Value.string at', Value.int IntKind.i64 2147483647] (Kd.one (Cmp.leaf Leaf.sl)) h19
                                fun (s28 : Sl) (h29 : Mem) =>
                                CallF PG fn_plain_Scan [Value.slice l.a l.len l.cap, Value.string at', Value.string hi, Value.int IntKind.i64 2147483647] (Kd.one (Cmp.leaf Leaf.sl)) h29
                                  fun (s30 : Sl) (h31 : Mem) =>
                                  PrimT PG (Builtin.append_ #[ty_sl_api_Pair, ty_sl_api_Pair] ty_sl_api_Pair #[Value.slice s28.a s28.len s28.cap, Value.slice s30.a s30.len s30.cap]) (Kd.one (Cmp.leaf Leaf.sl))
                                    h31 fun (s32 : Sl) (h33 : Mem) =>
                                    CallF PG fn_dunnagehelp_Pairs [Value.slice s32.a s32.len s32.cap, Value.slice s1.a s1.len s1.cap] (Kd.one (Cmp.leaf Leaf.bool)) h33
                                      fun (b34 : Bool) (h35 : Mem) => Q b34 h35)))))) ∧
          Br (!b3) (I5 true h4) (CallF PG fn_plain_Check [Value.slice l.a l.len l.cap] (Kd.one (Cmp.leaf (Leaf.int IntKind.i64))) h4 fun (n36 : Int) (h37 : Mem) => I5 (n36 != 0) h37)
theorem eq_dunnagelaw11_PlainScans (l : Sl) (lo : ByteArray) (at' : ByteArray) (hi : ByteArray) (most : Int) (h : Mem) (Q : Bool → Mem → Prop) : wp_dunnagelaw11_PlainScans l lo at' hi most h Q = evFn PG fn_dunnagelaw11_PlainScans tab_dunnagelaw11_PlainScans [.slice l.a l.len l.cap, .string lo, .string at', .string hi, .int .i64 most] (.one (.leaf .bool)) h Q := by kernel_rfl
theorem ok_dunnagelaw11_PlainScans : okF PG fn_dunnagelaw11_PlainScans tab_dunnagelaw11_PlainScans = true := by kernel_rfl
theorem call_dunnagelaw11_PlainScans {l : Sl} {lo : ByteArray} {at' : ByteArray} {hi : ByteArray} {most : Int} {h : Mem} {Q : Bool → Mem → Prop} (w : wp_dunnagelaw11_PlainScans l lo at' hi most h Q) : CallF PG fn_dunnagelaw11_PlainScans [.slice l.a l.len l.cap, .string lo, .string at', .string hi, .int .i64 most] (.one (.leaf .bool)) h Q := callF_of PM ok_dunnagelaw11_PlainScans (eq_dunnagelaw11_PlainScans l lo at' hi most h Q ▸ w)

/- 15: dunnage/dunnagelaw10.BatchReads -/
def tab_dunnagelaw10_BatchReads : Tab := ⟨[], [], []⟩
def wp_dunnagelaw10_BatchReads (b : Sl) (h : Mem) (Q : Bool → Mem → Prop) : Prop :=
  CallF PG fn_dunnagehelp_Own_byte_ [Value.slice b.a b.len b.cap, Value.int IntKind.u8 71] (Kd.one (Cmp.leaf Leaf.sl)) h fun (s1 : Sl) (h2 : Mem) =>
    CallF PG fn_batch_Read [Value.slice s1.a s1.len s1.cap]
      (Kd.tup
        [Cmp.agg [Leaf.int IntKind.i64, Leaf.int IntKind.u64, Leaf.sl, Leaf.int IntKind.u64, Leaf.int IntKind.i64, Leaf.int IntKind.i64, Leaf.int IntKind.i64],
          Cmp.leaf (Leaf.int IntKind.i64)])
      h2 fun (n3 n4 : Int) (s5 : Sl) (n6 n7 n8 n9 n10 : Int) (h11 : Mem) =>
      New
        (Obj.cells
          #[Value.int IntKind.i64 0, Value.int IntKind.u64 0, Value.slice none 0 0, Value.int IntKind.u64 0, Value.int IntKind.i64 0, Value.int IntKind.i64 0,
            Value.int IntKind.i64 0]
          38)
        h11 fun (k12 : Nat) (h13 : Mem) =>
        St PG ty_api_Record (Addr.mk k12 0 none)
          (Value.agg
            #[Value.int IntKind.i64 n3, Value.int IntKind.u64 n4, Value.slice s5.a s5.len s5.cap, Value.int IntKind.u64 n6, Value.int IntKind.i64 n7, Value.int IntKind.i64 n8,
              Value.int IntKind.i64 n9])
          h13 fun (h14 : Mem) =>
          CallF PG fn_dunnageref10_Read [Value.slice b.a b.len b.cap]
            (Kd.tup
              [Cmp.agg [Leaf.int IntKind.i64, Leaf.int IntKind.u64, Leaf.sl, Leaf.int IntKind.u64, Leaf.int IntKind.i64, Leaf.int IntKind.i64, Leaf.int IntKind.i64],
                Cmp.leaf (Leaf.int IntKind.i64)])
            h14 fun (n15 n16 : Int) (s17 : Sl) (n18 n19 n20 n21 n22 : Int) (h23 : Mem) =>
            New
              (Obj.cells
                #[Value.int IntKind.i64 0, Value.int IntKind.u64 0, Value.slice none 0 0, Value.int IntKind.u64 0, Value.int IntKind.i64 0, Value.int IntKind.i64 0,
                  Value.int IntKind.i64 0]
                38)
              h23 fun (k24 : Nat) (h25 : Mem) =>
              St PG ty_api_Record (Addr.mk k24 0 none)
                (Value.agg
                  #[Value.int IntKind.i64 n15, Value.int IntKind.u64 n16, Value.slice s17.a s17.len s17.cap, Value.int IntKind.u64 n18, Value.int IntKind.i64 n19,
                    Value.int IntKind.i64 n20, Value.int IntKind.i64 n21])
                h25 fun (h26 : Mem) =>
                CallF PG fn_dunnagelaw10_awake [] (Kd.one (Cmp.leaf Leaf.bool)) h26 fun (b27 : Bool) (h28 : Mem) =>
                  Br b27
                    (Ld PG ty_api_Record (Addr.mk k12 0 none)
                      (Kd.one (Cmp.agg [Leaf.int IntKind.i64, Leaf.int IntKind.u64, Leaf.sl, Leaf.int IntKind.u64, Leaf.int IntKind.i64, Leaf.int IntKind.i64, Leaf.int IntKind.i64]))
                      h28 fun (n29 n30 : Int) (s31 : Sl) (n32 n33 n34 n35 : Int) =>
                      Ld PG ty_api_Record (Addr.mk k24 0 none)
                        (Kd.one
                          (Cmp.agg [Leaf.int IntKind.i64, Leaf.int IntKind.u64, Leaf.sl, Leaf.int IntKind.u64, Leaf.int IntKind.i64, Leaf.int IntKind.i64, Leaf.int IntKind.i64]))
                        h28 fun (n36 n37 : Int) (s38 : Sl) (n39 n40 n41 n42 : Int) =>
                        CallF PG fn_dunnagehelp_Record 
                          [Value.agg
                              #[Value.int IntKind.i64 n29, Value.int IntKind.u64 n30, Value.slice s31.a s31.len s31.cap, Value.int IntKind.u64 n32, Value.int IntKind.i64 n33,
                                Value.int IntKind.i64 n34, Value.int IntKind.i64 n35],
                            Value.agg
                              #[Value.int IntKind.i64 n36, Value.int IntKind.u64 n37, Value.slice s38.a s38.len s38.cap, Value.int IntKind.u64 n39, Value.int IntKind.i64 n40,
                                Value.int IntKind.i64 n41, Value.int IntKind.i64 n42]]
                          (Kd.one (Cmp.leaf Leaf.bool)) h28 fun (b43 : Bool) (h44 : Mem) =>
                          Br b43
                            (Br (n10 == n22)
                              (CallF PG fn_dunnagehelp_Kept_byte_ [Value.slice s1.a s1.len s1.cap, Value.slice b.a b.len b.cap, Value.int IntKind.u8 71] (Kd.one (Cmp.leaf Leaf.bool)) h44
                                fun (b45 : Bool) (h46 : Mem) => Q b45 h46)
                              (Q false h44))
                            (Q false h44))
                    (Q false h28)
theorem eq_dunnagelaw10_BatchReads (b : Sl) (h : Mem) (Q : Bool → Mem → Prop) : wp_dunnagelaw10_BatchReads b h Q = evFn PG fn_dunnagelaw10_BatchReads tab_dunnagelaw10_BatchReads [.slice b.a b.len b.cap] (.one (.leaf .bool)) h Q := by kernel_rfl
theorem ok_dunnagelaw10_BatchReads : okF PG fn_dunnagelaw10_BatchReads tab_dunnagelaw10_BatchReads = true := by kernel_rfl
theorem call_dunnagelaw10_BatchReads {b : Sl} {h : Mem} {Q : Bool → Mem → Prop} (w : wp_dunnagelaw10_BatchReads b h Q) : CallF PG fn_dunnagelaw10_BatchReads [.slice b.a b.len b.cap] (.one (.leaf .bool)) h Q := callF_of PM ok_dunnagelaw10_BatchReads (eq_dunnagelaw10_BatchReads b h Q ▸ w)

/- 16: dunnage/dunnagelaw10.BatchBack -/
def tab_dunnagelaw10_BatchBack : Tab := ⟨[], [], [(10, (chainT [(0, false), (1, false), (2, false)] (.join ⟨[(76, .leaf .bool)], [74, 75]⟩ (chainT [(3, false), (4, false), (5, false)] .nil) .nil))), (6, (chainT [(0, false), (1, false), (2, false)] (.join ⟨[(47, .leaf .bool)], [43, 44, 45, 46]⟩ (chainT [(3, false), (4, false), (5, false), (6, false), (7, false)] .nil) .nil))), (2, (chainT [(0, false), (1, false), (2, false)] (.join ⟨[(32, .leaf .bool)], [27, 28, 29, 30, 31]⟩ (chainT [(3, false), (4, false), (5, false), (6, false), (7, false), (8, false)] .nil) .nil)))]⟩
def wp_dunnagelaw10_BatchBack (r_0 : Int) (r_1 : Int) (r_2 : Sl) (r_3 : Int) (r_4 : Int) (r_5 : Int) (r_6 : Int) (b : Sl) (cut : Int) (h : Mem) (Q : Bool → Mem → Prop) : Prop :=
  New
    (Obj.cells
      #[Value.int IntKind.i64 r_0, Value.int IntKind.u64 r_1, Value.slice r_2.a r_2.len r_2.cap, Value.int IntKind.u64 r_3, Value.int IntKind.i64 r_4, Value.int IntKind.i64 r_5,
        Value.int IntKind.i64 r_6]
      38)
    h fun (k1 : Nat) (h2 : Mem) =>
    Ld PG ty_api_Record (Addr.mk k1 0 none)
      (Kd.one (Cmp.agg [Leaf.int IntKind.i64, Leaf.int IntKind.u64, Leaf.sl, Leaf.int IntKind.u64, Leaf.int IntKind.i64, Leaf.int IntKind.i64, Leaf.int IntKind.i64])) h2
      fun (n3 n4 : Int) (s5 : Sl) (n6 n7 n8 n9 : Int) =>
      CallF PG fn_batch_Write 
        [Value.agg
            #[Value.int IntKind.i64 n3, Value.int IntKind.u64 n4, Value.slice s5.a s5.len s5.cap, Value.int IntKind.u64 n6, Value.int IntKind.i64 n7, Value.int IntKind.i64 n8,
              Value.int IntKind.i64 n9]]
        (Kd.tup [Cmp.leaf Leaf.sl, Cmp.leaf (Leaf.int IntKind.i64)]) h2 fun (s10 : Sl) (n11 : Int) (h12 : Mem) =>
        CallF PG fn_dunnagelaw10_awake [] (Kd.one (Cmp.leaf Leaf.bool)) h12 fun (b13 : Bool) (h14 : Mem) =>
          ∃ (I15 : Bool → Mem → Prop),
            (∀ (j16 : Fr) (b17 : Bool) (h18 : Mem),
                I15 b17 h18 →
                  Br b17 (Q false h18)
                    (Br (n11 == 0)
                      (CallF PG fn_batch_Read [Value.slice s10.a s10.len s10.cap]
                        (Kd.tup
                          [Cmp.agg [Leaf.int IntKind.i64, Leaf.int IntKind.u64, Leaf.sl, Leaf.int IntKind.u64, Leaf.int IntKind.i64, Leaf.int IntKind.i64, Leaf.int IntKind.i64],
                            Cmp.leaf (Leaf.int IntKind.i64)])
                        h18 fun (n19 n20 : Int) (s21 : Sl) (n22 n23 n24 n25 n26 : Int) (h27 : Mem) =>
                        New
                          (Obj.cells
                            #[Value.int IntKind.i64 0, Value.int IntKind.u64 0, Value.slice none 0 0, Value.int IntKind.u64 0, Value.int IntKind.i64 0, Value.int IntKind.i64 0,
                              Value.int IntKind.i64 0]
                            38)
                          h27 fun (k28 : Nat) (h29 : Mem) =>
                          St PG ty_api_Record (Addr.mk k28 0 none)
                            (Value.agg
                              #[Value.int IntKind.i64 n19, Value.int IntKind.u64 n20, Value.slice s21.a s21.len s21.cap, Value.int IntKind.u64 n22, Value.int IntKind.i64 n23,
                                Value.int IntKind.i64 n24, Value.int IntKind.i64 n25])
                            h29 fun (h30 : Mem) =>
                            ∃ (I31 : Bool → Mem → Prop),
                              (∀ (j32 : Fr) (b33 : Bool) (h34 : Mem),
                                  I31 b33 h34 →
                                    Br b33 (Q false h34)
                                      (Chk (!decide (IntKind.u64.wrap (↑s10.len : Int) = 0))
                                        (Cut 1 s10.a s10.len s10.cap none (some (IntKind.i64.wrap ((IntKind.u64.wrap cut).tmod (IntKind.u64.wrap (↑s10.len : Int))))) none
                                          fun (s35 : Sl) =>
                                          CallF PG fn_batch_Read [Value.slice s35.a s35.len s35.cap]
                                            (Kd.tup
                                              [Cmp.agg
                                                  [Leaf.int IntKind.i64, Leaf.int IntKind.u64, Leaf.sl, Leaf.int IntKind.u64, Leaf.int IntKind.i64, Leaf.int IntKind.i64,
                                                    Leaf.int IntKind.i64],
                                                Cmp.leaf (Leaf.int IntKind.i64)])
                                            h34 fun (n36 n37 : Int) (s38 : Sl) (n39 n40 n41 n42 n43 : Int) (h44 : Mem) =>
                                            New
                                              (Obj.cells
                                                #[Value.int IntKind.i64 0, Value.int IntKind.u64 0, Value.slice none 0 0, Value.int IntKind.u64 0, Value.int IntKind.i64 0,
                                                  Value.int IntKind.i64 0, Value.int IntKind.i64 0]
                                                38)
                                              h44 fun (k45 : Nat) (h46 : Mem) =>
                                              St PG ty_api_Record (Addr.mk k45 0 none)
                                                (Value.agg
                                                  #[Value.int IntKind.i64 n36, Value.int IntKind.u64 n37, Value.slice s38.a s38.len s38.cap, Value.int IntKind.u64 n39,
                                                    Value.int IntKind.i64 n40, Value.int IntKind.i64 n41, Value.int IntKind.i64 n42])
                                                h46 fun (h47 : Mem) =>
                                                PrimT PG (Builtin.append_ #[ty_sl_uint8, ty_sl_uint8] ty_sl_uint8 #[Value.slice none 0 0, Value.slice s10.a s10.len s10.cap]) (Kd.one (Cmp.leaf Leaf.sl))
                                                  h47 fun (s48 : Sl) (h49 : Mem) =>
                                                  New (Obj.cells #[Value.int IntKind.u8 (IntKind.u8.wrap cut)] ty_uint8) h49 fun (k50 : Nat) (h51 : Mem) =>
                                                    PrimT PG (Builtin.append_ #[ty_sl_uint8, ty_sl_uint8] ty_sl_uint8 #[Value.slice s48.a s48.len s48.cap, Value.slice (some (Addr.mk k50 0 none)) 1 1])
                                                      (Kd.one (Cmp.leaf Leaf.sl)) h51 fun (s52 : Sl) (h53 : Mem) =>
                                                      CallF PG fn_batch_Read [Value.slice s52.a s52.len s52.cap]
                                                        (Kd.tup
                                                          [Cmp.agg
                                                              [Leaf.int IntKind.i64, Leaf.int IntKind.u64, Leaf.sl, Leaf.int IntKind.u64, Leaf.int IntKind.i64, Leaf.int IntKind.i64,
                                                                Leaf.int IntKind.i64],
                                                            Cmp.leaf (Leaf.int IntKind.i64)])
                                                        h53 fun (n54 n55 : Int) (s56 : Sl) (n57 n58 n59 n60 n61 : Int) (h62 : Mem) =>
                                                        New
                                                          (Obj.cells
                                                            #[Value.int IntKind.i64 0, Value.int IntKind.u64 0, Value.slice none 0 0, Value.int IntKind.u64 0,
                                                              Value.int IntKind.i64 0, Value.int IntKind.i64 0, Value.int IntKind.i64 0]
                                                            38)
                                                          h62 fun (k63 : Nat) (h64 : Mem) =>
                                                          St PG ty_api_Record (Addr.mk k63 0 none)
                                                            (Value.agg
                                                              #[Value.int IntKind.i64 n54, Value.int IntKind.u64 n55, Value.slice s56.a s56.len s56.cap, Value.int IntKind.u64 n57,
                                                                Value.int IntKind.i64 n58, Value.int IntKind.i64 n59, Value.int IntKind.i64 n60])
                                                            h64 fun (h65 : Mem) =>
                                                            ∃ (I66 : Bool → Mem → Prop),
                                                              (∀ (j67 : Fr) (b68 : Bool) (h69 : Mem),
                                                                  I66 b68 h69 →
                                                                    Br b68 (Q false h69)
                                                                      (CallF PG fn_batch_Read [Value.slice b.a b.len b.cap]
                                                                        (Kd.tup
                                                                          [Cmp.agg
                                                                              [Leaf.int IntKind.i64, Leaf.int IntKind.u64, Leaf.sl, Leaf.int IntKind.u64, Leaf.int IntKind.i64,
                                                                                Leaf.int IntKind.i64, Leaf.int IntKind.i64],
                                                                            Cmp.leaf (Leaf.int IntKind.i64)])
                                                                        h69 fun (n70 n71 : Int) (s72 : Sl) (n73 n74 n75 n76 n77 : Int) (h78 : Mem) =>
                                                                        New
                                                                          (Obj.cells
                                                                            #[Value.int IntKind.i64 0, Value.int IntKind.u64 0, Value.slice none 0 0, Value.int IntKind.u64 0,
                                                                              Value.int IntKind.i64 0, Value.int IntKind.i64 0, Value.int IntKind.i64 0]
                                                                            38)
                                                                          h78 fun (k79 : Nat) (h80 : Mem) =>
                                                                          St PG ty_api_Record (Addr.mk k79 0 none)
                                                                            (Value.agg
                                                                              #[Value.int IntKind.i64 n70, Value.int IntKind.u64 n71, Value.slice s72.a s72.len s72.cap,
                                                                                Value.int IntKind.u64 n73, Value.int IntKind.i64 n74, Value.int IntKind.i64 n75,
                                                                                Value.int IntKind.i64 n76])
                                                                            h80 fun (h81 : Mem) =>
                                                                            Br (n77 != 0) (Q true h81)
                                                                              (Ld PG ty_api_Record (Addr.mk k79 0 none)
                                                                                (Kd.one
                                                                                  (Cmp.agg
                                                                                    [Leaf.int IntKind.i64, Leaf.int IntKind.u64, Leaf.sl, Leaf.int IntKind.u64, Leaf.int IntKind.i64,
                                                                                      Leaf.int IntKind.i64, Leaf.int IntKind.i64]))
                                                                                h81 fun (n82 n83 : Int) (s84 : Sl) (n85 n86 n87 n88 : Int) =>
                                                                                CallF PG fn_batch_Write 
                                                                                  [Value.agg
                                                                                      #[Value.int IntKind.i64 n82, Value.int IntKind.u64 n83, Value.slice s84.a s84.len s84.cap,
                                                                                        Value.int IntKind.u64 n85, Value.int IntKind.i64 n86, Value.int IntKind.i64 n87,
                                                                                        Value.int IntKind.i64 n88]]
                                                                                  (Kd.tup [Cmp.leaf Leaf.sl, Cmp.leaf (Leaf.int IntKind.i64)]) h81
                                                                                  fun (s89 : Sl) (n90 : Int) (h91 : Mem) =>
                                                                                  Br (n90 == 0)
                                                                                    (CallF PG fn_dunnagehelp_Bytes [Value.slice s89.a s89.len s89.cap, Value.slice b.a b.len b.cap]
                                                                                      (Kd.one (Cmp.leaf Leaf.bool)) h91 fun (b92 : Bool) (h93 : Mem) => Q b92 h93)
                                                                                    (Q false h91)))) ∧
                                                                Br (n43 == 0) (I66 true h65) (I66 (n61 != 11) h65)))) ∧
                                Br (n26 != 0) (I31 true h30)
                                  (Ld PG ty_api_Record (Addr.mk k28 0 none)
                                    (Kd.one
                                      (Cmp.agg
                                        [Leaf.int IntKind.i64, Leaf.int IntKind.u64, Leaf.sl, Leaf.int IntKind.u64, Leaf.int IntKind.i64, Leaf.int IntKind.i64,
                                          Leaf.int IntKind.i64]))
                                    h30 fun (n94 n95 : Int) (s96 : Sl) (n97 n98 n99 n100 : Int) =>
                                    Ld PG ty_api_Record (Addr.mk k1 0 none)
                                      (Kd.one
                                        (Cmp.agg
                                          [Leaf.int IntKind.i64, Leaf.int IntKind.u64, Leaf.sl, Leaf.int IntKind.u64, Leaf.int IntKind.i64, Leaf.int IntKind.i64,
                                            Leaf.int IntKind.i64]))
                                      h30 fun (n101 n102 : Int) (s103 : Sl) (n104 n105 n106 n107 : Int) =>
                                      CallF PG fn_dunnagehelp_Record 
                                        [Value.agg
                                            #[Value.int IntKind.i64 n94, Value.int IntKind.u64 n95, Value.slice s96.a s96.len s96.cap, Value.int IntKind.u64 n97,
                                              Value.int IntKind.i64 n98, Value.int IntKind.i64 n99, Value.int IntKind.i64 n100],
                                          Value.agg
                                            #[Value.int IntKind.i64 n101, Value.int IntKind.u64 n102, Value.slice s103.a s103.len s103.cap, Value.int IntKind.u64 n104,
                                              Value.int IntKind.i64 n105, Value.int IntKind.i64 n106, Value.int IntKind.i64 n107]]
                                        (Kd.one (Cmp.leaf Leaf.bool)) h30 fun (b108 : Bool) (h109 : Mem) => I31 (!b108) h109))
                      (CallF PG fn_batch_Read [Value.slice b.a b.len b.cap]
                        (Kd.tup
                          [Cmp.agg [Leaf.int IntKind.i64, Leaf.int IntKind.u64, Leaf.sl, Leaf.int IntKind.u64, Leaf.int IntKind.i64, Leaf.int IntKind.i64, Leaf.int IntKind.i64],
                            Cmp.leaf (Leaf.int IntKind.i64)])
                        h18 fun (n110 n111 : Int) (s112 : Sl) (n113 n114 n115 n116 n117 : Int) (h118 : Mem) =>
                        New
                          (Obj.cells
                            #[Value.int IntKind.i64 0, Value.int IntKind.u64 0, Value.slice none 0 0, Value.int IntKind.u64 0, Value.int IntKind.i64 0, Value.int IntKind.i64 0,
                              Value.int IntKind.i64 0]
                            38)
                          h118 fun (k119 : Nat) (h120 : Mem) =>
                          St PG ty_api_Record (Addr.mk k119 0 none)
                            (Value.agg
                              #[Value.int IntKind.i64 n110, Value.int IntKind.u64 n111, Value.slice s112.a s112.len s112.cap, Value.int IntKind.u64 n113, Value.int IntKind.i64 n114,
                                Value.int IntKind.i64 n115, Value.int IntKind.i64 n116])
                            h120 fun (h121 : Mem) =>
                            Br (n117 != 0) (Q true h121)
                              (Ld PG ty_api_Record (Addr.mk k119 0 none)
                                (Kd.one
                                  (Cmp.agg
                                    [Leaf.int IntKind.i64, Leaf.int IntKind.u64, Leaf.sl, Leaf.int IntKind.u64, Leaf.int IntKind.i64, Leaf.int IntKind.i64, Leaf.int IntKind.i64]))
                                h121 fun (n122 n123 : Int) (s124 : Sl) (n125 n126 n127 n128 : Int) =>
                                CallF PG fn_batch_Write 
                                  [Value.agg
                                      #[Value.int IntKind.i64 n122, Value.int IntKind.u64 n123, Value.slice s124.a s124.len s124.cap, Value.int IntKind.u64 n125,
                                        Value.int IntKind.i64 n126, Value.int IntKind.i64 n127, Value.int IntKind.i64 n128]]
                                  (Kd.tup [Cmp.leaf Leaf.sl, Cmp.leaf (Leaf.int IntKind.i64)]) h121 fun (s129 : Sl) (n130 : Int) (h131 : Mem) =>
                                  Br (n130 == 0)
                                    (CallF PG fn_dunnagehelp_Bytes [Value.slice s129.a s129.len s129.cap, Value.slice b.a b.len b.cap] (Kd.one (Cmp.leaf Leaf.bool)) h131
                                      fun (b132 : Bool) (h133 : Mem) => Q b132 h133)
                                    (Q false h131))))) ∧
              Br (!b13) (I15 true h14)
                (Ld PG ty_api_Record (Addr.mk k1 0 none)
                  (Kd.one (Cmp.agg [Leaf.int IntKind.i64, Leaf.int IntKind.u64, Leaf.sl, Leaf.int IntKind.u64, Leaf.int IntKind.i64, Leaf.int IntKind.i64, Leaf.int IntKind.i64])) h14
                  fun (n134 n135 : Int) (s136 : Sl) (n137 n138 n139 n140 : Int) =>
                  CallF PG fn_batch_May 
                    [Value.agg
                        #[Value.int IntKind.i64 n134, Value.int IntKind.u64 n135, Value.slice s136.a s136.len s136.cap, Value.int IntKind.u64 n137, Value.int IntKind.i64 n138,
                          Value.int IntKind.i64 n139, Value.int IntKind.i64 n140]]
                    (Kd.one (Cmp.leaf Leaf.bool)) h14 fun (b141 : Bool) (h142 : Mem) => I15 (!b141 == (n11 == 0)) h142)
theorem eq_dunnagelaw10_BatchBack (r_0 : Int) (r_1 : Int) (r_2 : Sl) (r_3 : Int) (r_4 : Int) (r_5 : Int) (r_6 : Int) (b : Sl) (cut : Int) (h : Mem) (Q : Bool → Mem → Prop) : wp_dunnagelaw10_BatchBack r_0 r_1 r_2 r_3 r_4 r_5 r_6 b cut h Q = evFn PG fn_dunnagelaw10_BatchBack tab_dunnagelaw10_BatchBack [.agg #[.int .i64 r_0, .int .u64 r_1, .slice r_2.a r_2.len r_2.cap, .int .u64 r_3, .int .i64 r_4, .int .i64 r_5, .int .i64 r_6], .slice b.a b.len b.cap, .int .i64 cut] (.one (.leaf .bool)) h Q := by kernel_rfl
theorem ok_dunnagelaw10_BatchBack : okF PG fn_dunnagelaw10_BatchBack tab_dunnagelaw10_BatchBack = true := by kernel_rfl
theorem call_dunnagelaw10_BatchBack {r_0 : Int} {r_1 : Int} {r_2 : Sl} {r_3 : Int} {r_4 : Int} {r_5 : Int} {r_6 : Int} {b : Sl} {cut : Int} {h : Mem} {Q : Bool → Mem → Prop} (w : wp_dunnagelaw10_BatchBack r_0 r_1 r_2 r_3 r_4 r_5 r_6 b cut h Q) : CallF PG fn_dunnagelaw10_BatchBack [.agg #[.int .i64 r_0, .int .u64 r_1, .slice r_2.a r_2.len r_2.cap, .int .u64 r_3, .int .i64 r_4, .int .i64 r_5, .int .i64 r_6], .slice b.a b.len b.cap, .int .i64 cut] (.one (.leaf .bool)) h Q := callF_of PM ok_dunnagelaw10_BatchBack (eq_dunnagelaw10_BatchBack r_0 r_1 r_2 r_3 r_4 r_5 r_6 b cut h Q ▸ w)

/- 17: dunnage/dunnagelaw11.PlainLooks; join 5: [want]; loop 12: [i] -/
def tab_dunnagelaw11_PlainLooks : Tab := ⟨[(12, ⟨[(18, .leaf (.int .i64))], [79, 80, 81, 82, 83, 84, 85, 86, 87, 88, 89, 90]⟩)], [(5, ⟨[(12, .leaf (.int .i64))], [21, 22, 23]⟩)], [(8, (chainT [(0, false), (1, false), (2, false)] (.join ⟨[(48, .leaf .bool)], [44, 45, 46, 47]⟩ (chainT [(3, false), (4, false), (5, false), (6, false), (7, false)] .nil) (chainT [(8, false)] (.join ⟨[(54, .leaf .bool)], [50, 51, 52, 53]⟩ (chainT [(9, false), (10, false), (11, false), (12, false), (13, false)] .nil) (chainT [(14, false)] (.join ⟨[(59, .leaf .bool)], [56, 57, 58]⟩ (chainT [(15, false), (16, false), (17, false), (18, false)] .nil) (chainT [(19, false)] (.join ⟨[(69, .leaf .bool)], [61, 62, 63, 64, 65, 66, 67, 68]⟩ (chainT [(20, false), (21, false), (22, false), (23, false), (24, false), (25, false), (26, false), (27, false), (28, false)] .nil) (chainT [(29, false), (30, false), (31, false), (32, false), (33, false), (34, false), (35, false)] .nil))))))))))]⟩
def wp_dunnagelaw11_PlainLooks (l : Sl) (key : ByteArray) (lo : ByteArray) (hi : ByteArray) (most : Int) (h : Mem) (Q : Bool → Mem → Prop) : Prop :=
  CallF PG fn_dunnagehelp_CopyPairs [Value.slice l.a l.len l.cap] (Kd.one (Cmp.leaf Leaf.sl)) h fun (s1 : Sl) (h2 : Mem) =>
    ∃ (I3 : Int → Mem → Prop),
      (∀ (j4 : Fr) (n5 : Int) (h6 : Mem),
          I3 n5 h6 →
            CallF PG fn_plain_Get [Value.slice s1.a s1.len s1.cap, Value.string key] (Kd.tup [Cmp.leaf Leaf.sl, Cmp.leaf Leaf.bool]) h6 fun (s7 : Sl) (b8 : Bool) (h9 : Mem) =>
              CallF PG fn_dunnageref11_Get [Value.slice l.a l.len l.cap, Value.string key] (Kd.tup [Cmp.leaf Leaf.sl, Cmp.leaf Leaf.bool]) h9 fun (s10 : Sl) (b11 : Bool) (h12 : Mem) =>
                CallF PG fn_plain_Scan [Value.slice s1.a s1.len s1.cap, Value.string lo, Value.string hi, Value.int IntKind.i64 most] (Kd.one (Cmp.leaf Leaf.sl)) h12
                  fun (s13 : Sl) (h14 : Mem) =>
                  CallF PG fn_dunnagelaw11_awake [] (Kd.one (Cmp.leaf Leaf.bool)) h14 fun (b15 : Bool) (h16 : Mem) =>
                    ∃ (I17 : Bool → Mem → Prop),
                      (∀ (j18 : Fr) (b19 : Bool) (h20 : Mem),
                          I17 b19 h20 →
                            ∃ (I21 : Bool → Mem → Prop),
                              (∀ (j22 : Fr) (b23 : Bool) (h24 : Mem),
                                  I21 b23 h24 →
                                    ∃ (I25 : Bool → Mem → Prop),
                                      (∀ (j26 : Fr) (b27 : Bool) (h28 : Mem),
                                          I25 b27 h28 →
                                            ∃ (I29 : Bool → Mem → Prop),
                                              (∀ (j30 : Fr) (b31 : Bool) (h32 : Mem),
                                                  I29 b31 h32 →
                                                    Br b31 (Q false h32)
                                                      (CallF PG fn_plain_Bytes [Value.slice s1.a s1.len s1.cap] (Kd.one (Cmp.leaf (Leaf.int IntKind.i64))) h32
                                                        fun (n33 : Int) (h34 : Mem) =>
                                                        CallF PG fn_dunnageref11_Bytes [Value.slice l.a l.len l.cap] (Kd.one (Cmp.leaf (Leaf.int IntKind.i64))) h34 fun (n35 : Int) (h36 : Mem) =>
                                                          Br (n33 != n35) (Q false h36)
                                                            (CallF PG fn_dunnagehelp_Spoil [Value.slice s7.a s7.len s7.cap] (Kd.tup []) h36 fun (h37 : Mem) =>
                                                              ∃ (I38 : Int → Mem → Prop),
                                                                ∃ (I39 : Int → Mem → Nat),
                                                                  I38 0 h37 ∧
                                                                    ∀ (j40 : Fr) (n41 : Int) (h42 : Mem),
                                                                      I38 n41 h42 →
                                                                        Br (decide (n41 < (↑s13.len : Int)))
                                                                          (Idx s13.a s13.len n41 fun (p43 : Addr) =>
                                                                            Ld PG ty_sl_uint8 ((p43.add (n41.toNat * 2)).add 1) (Kd.one (Cmp.leaf Leaf.sl)) h42 fun (s44 : Sl) =>
                                                                              CallF PG fn_dunnagehelp_Spoil [Value.slice s44.a s44.len s44.cap] (Kd.tup []) h42 fun (h45 : Mem) =>
                                                                                I38 (IntKind.i64.wrap (n41 + 1)) h45 ∧ I39 (IntKind.i64.wrap (n41 + 1)) h45 < I39 n41 h42)
                                                                          (CallF PG fn_dunnagehelp_Pairs [Value.slice s1.a s1.len s1.cap, Value.slice l.a l.len l.cap]
                                                                            (Kd.one (Cmp.leaf Leaf.bool)) h42 fun (b46 : Bool) (h47 : Mem) => Q b46 h47)))) ∧
                                                Br b27 (I29 true h28)
                                                  (CallF PG fn_dunnageref11_Scan [Value.slice l.a l.len l.cap, Value.string lo, Value.string hi, Value.int IntKind.i64 most]
                                                    (Kd.one (Cmp.leaf Leaf.sl)) h28 fun (s48 : Sl) (h49 : Mem) =>
                                                    CallF PG fn_dunnagehelp_Pairs [Value.slice s13.a s13.len s13.cap, Value.slice s48.a s48.len s48.cap] (Kd.one (Cmp.leaf Leaf.bool)) h49
                                                      fun (b50 : Bool) (h51 : Mem) => I29 (!b50) h51)) ∧
                                        Br b23 (I25 true h24) (I25 (!b8 == b11) h24)) ∧
                                Br b19 (I21 true h20)
                                  (CallF PG fn_dunnagehelp_Bytes [Value.slice s7.a s7.len s7.cap, Value.slice s10.a s10.len s10.cap] (Kd.one (Cmp.leaf Leaf.bool)) h20
                                    fun (b52 : Bool) (h53 : Mem) => I21 (!b52) h53)) ∧
                        Br (!b15) (I17 true h16)
                          (CallF PG fn_plain_Check [Value.slice s1.a s1.len s1.cap] (Kd.one (Cmp.leaf (Leaf.int IntKind.i64))) h16 fun (n54 : Int) (h55 : Mem) => I17 (n54 != n5) h55)) ∧
        CallF PG fn_dunnageref11_Right [Value.slice l.a l.len l.cap] (Kd.one (Cmp.leaf Leaf.bool)) h2 fun (b56 : Bool) (h57 : Mem) => Br (!b56) (I3 11 h57) (I3 0 h57)
theorem eq_dunnagelaw11_PlainLooks (l : Sl) (key : ByteArray) (lo : ByteArray) (hi : ByteArray) (most : Int) (h : Mem) (Q : Bool → Mem → Prop) : wp_dunnagelaw11_PlainLooks l key lo hi most h Q = evFn PG fn_dunnagelaw11_PlainLooks tab_dunnagelaw11_PlainLooks [.slice l.a l.len l.cap, .string key, .string lo, .string hi, .int .i64 most] (.one (.leaf .bool)) h Q := by kernel_rfl
theorem ok_dunnagelaw11_PlainLooks : okF PG fn_dunnagelaw11_PlainLooks tab_dunnagelaw11_PlainLooks = true := by kernel_rfl
theorem call_dunnagelaw11_PlainLooks {l : Sl} {key : ByteArray} {lo : ByteArray} {hi : ByteArray} {most : Int} {h : Mem} {Q : Bool → Mem → Prop} (w : wp_dunnagelaw11_PlainLooks l key lo hi most h Q) : CallF PG fn_dunnagelaw11_PlainLooks [.slice l.a l.len l.cap, .string key, .string lo, .string hi, .int .i64 most] (.one (.leaf .bool)) h Q := callF_of PM ok_dunnagelaw11_PlainLooks (eq_dunnagelaw11_PlainLooks l key lo hi most h Q ▸ w)

/- 18: dunnage/dunnagelaw11.PlainCounts; loop 6: [n, i] -/
def tab_dunnagelaw11_PlainCounts : Tab := ⟨[(6, ⟨[(4, .leaf (.int .i64)), (5, .leaf (.int .i64))], [2, 6, 7, 28, 29, 30, 31, 32, 33, 34, 35, 36, 37, 38, 39, 40, 41, 42, 43, 44, 45, 46, 47, 48, 49, 50, 51, 52, 53, 54, 55, 56, 57, 58, 59, 60, 61, 62, 63, 64, 65, 66, 67, 68, 69, 70]⟩)], [], [(3, (chainT [(0, false), (1, false)] (.join ⟨[(22, .leaf .bool)], [19, 20, 21]⟩ (chainT [(2, false), (3, false), (4, false), (5, false)] .nil) (chainT [(6, false)] (.join ⟨[(27, .leaf .bool)], [24, 25, 26]⟩ (chainT [(7, false), (8, false), (9, false), (10, false)] .nil) (chainT [(11, false)] .nil)))))), (2, (chainT [(0, false), (1, false), (2, false)] (.join ⟨[(16, .leaf .bool)], [13, 14, 15]⟩ (chainT [(3, false), (4, false), (5, false), (6, false)] .nil) .nil)))]⟩
def wp_dunnagelaw11_PlainCounts (l : Sl) (h : Mem) (Q : Bool → Mem → Prop) : Prop :=
  CallF PG fn_plain_Scan [Value.slice l.a l.len l.cap, Value.string (ByteArray.mk #[]), Value.string (ByteArray.mk #[]), Value.int IntKind.i64 2147483647] (Kd.one (Cmp.leaf Leaf.sl)) h
    fun (s1 : Sl) (h2 : Mem) =>
    CallF PG fn_dunnagelaw11_awake [] (Kd.one (Cmp.leaf Leaf.bool)) h2 fun (b3 : Bool) (h4 : Mem) =>
      ∃ (I5 : Bool → Mem → Prop),
        (∀ (j6 : Fr) (b7 : Bool) (h8 : Mem),
            I5 b7 h8 →
              Br b7
                (CallF PG fn_dunnagelaw11_awake [] (Kd.one (Cmp.leaf Leaf.bool)) h8 fun (b9 : Bool) (h10 : Mem) =>
                  ∃ (I11 : Bool → Mem → Prop),
                    (∀ (j12 : Fr) (b13 : Bool) (h14 : Mem),
                        I11 b13 h14 →
                          ∃ (I15 : Bool → Mem → Prop),
                            (∀ (j16 : Fr) (b17 : Bool) (h18 : Mem), I15 b17 h18 → Q b17 h18) ∧
                              Br b13
                                (CallF PG fn_plain_Bytes [Value.slice l.a l.len l.cap] (Kd.one (Cmp.leaf (Leaf.int IntKind.i64))) h14 fun (n19 : Int) (h20 : Mem) => I15 (n19 == 0) h20)
                                (I15 false h14)) ∧
                      Br b9 (I11 ((↑s1.len : Int) == 0) h10) (I11 false h10))
                (∃ (I21 : Int → Int → Mem → Prop),
                  ∃ (I22 : Int → Int → Mem → Nat),
                    I21 0 0 h8 ∧
                      ∀ (j23 : Fr) (n24 n25 : Int) (h26 : Mem),
                        I21 n24 n25 h26 →
                          Br (decide (n25 < (↑s1.len : Int)))
                            (Idx s1.a s1.len n25 fun (p27 : Addr) =>
                              Ld PG ty_string (p27.add (n25.toNat * 2)) (Kd.one (Cmp.leaf Leaf.str)) h26 fun (t28 : ByteArray) =>
                                CallF PG fn_plain_Get [Value.slice l.a l.len l.cap, Value.string t28] (Kd.tup [Cmp.leaf Leaf.sl, Cmp.leaf Leaf.bool]) h26
                                  fun (s29 : Sl) (b30 : Bool) (h31 : Mem) =>
                                  Br (!b30) (Q false h31)
                                    (Idx s1.a s1.len n25 fun (p32 : Addr) =>
                                      Ld PG ty_sl_uint8 ((p32.add (n25.toNat * 2)).add 1) (Kd.one (Cmp.leaf Leaf.sl)) h31 fun (s33 : Sl) =>
                                        CallF PG fn_dunnagehelp_Bytes [Value.slice s29.a s29.len s29.cap, Value.slice s33.a s33.len s33.cap] (Kd.one (Cmp.leaf Leaf.bool)) h31
                                          fun (b34 : Bool) (h35 : Mem) =>
                                          Br (!b34) (Q false h35)
                                            (Idx s1.a s1.len n25 fun (p36 : Addr) =>
                                              Ld PG ty_string (p36.add (n25.toNat * 2)) (Kd.one (Cmp.leaf Leaf.str)) h35 fun (t37 : ByteArray) =>
                                                Idx s1.a s1.len n25 fun (p38 : Addr) =>
                                                  Ld PG ty_sl_uint8 ((p38.add (n25.toNat * 2)).add 1) (Kd.one (Cmp.leaf Leaf.sl)) h35 fun (s39 : Sl) =>
                                                    I21 (IntKind.i64.wrap (IntKind.i64.wrap (n24 + (↑t37.size : Int)) + (↑s39.len : Int))) (IntKind.i64.wrap (n25 + 1)) h35 ∧
                                                      I22 (IntKind.i64.wrap (IntKind.i64.wrap (n24 + (↑t37.size : Int)) + (↑s39.len : Int))) (IntKind.i64.wrap (n25 + 1)) h35 <
                                                        I22 n24 n25 h26)))
                            (CallF PG fn_plain_Bytes [Value.slice l.a l.len l.cap] (Kd.one (Cmp.leaf (Leaf.int IntKind.i64))) h26 fun (n40 : Int) (h41 : Mem) =>
                              Br (n24 == n40)
                                (CallF PG fn_dunnagehelp_Pairs [Value.slice s1.a s1.len s1.cap, Value.slice l.a l.len l.cap] (Kd.one (Cmp.leaf Leaf.bool)) h41 fun (b42 : Bool) (h43 : Mem) =>
                                  Q b42 h43)
                                (Q false h41)))) ∧
          Br (!b3) (I5 true h4) (CallF PG fn_plain_Check [Value.slice l.a l.len l.cap] (Kd.one (Cmp.leaf (Leaf.int IntKind.i64))) h4 fun (n44 : Int) (h45 : Mem) => I5 (n44 != 0) h45)
theorem eq_dunnagelaw11_PlainCounts (l : Sl) (h : Mem) (Q : Bool → Mem → Prop) : wp_dunnagelaw11_PlainCounts l h Q = evFn PG fn_dunnagelaw11_PlainCounts tab_dunnagelaw11_PlainCounts [.slice l.a l.len l.cap] (.one (.leaf .bool)) h Q := by kernel_rfl
theorem ok_dunnagelaw11_PlainCounts : okF PG fn_dunnagelaw11_PlainCounts tab_dunnagelaw11_PlainCounts = true := by kernel_rfl
theorem call_dunnagelaw11_PlainCounts {l : Sl} {h : Mem} {Q : Bool → Mem → Prop} (w : wp_dunnagelaw11_PlainCounts l h Q) : CallF PG fn_dunnagelaw11_PlainCounts [.slice l.a l.len l.cap] (.one (.leaf .bool)) h Q := callF_of PM ok_dunnagelaw11_PlainCounts (eq_dunnagelaw11_PlainCounts l h Q ▸ w)

/- 19: dunnage/dunnagelaw11.PlainDiffers; loop 6: [i] -/
def tab_dunnagelaw11_PlainDiffers : Tab := ⟨[(6, ⟨[(8, .leaf (.int .i64))], [26, 27, 28, 29, 30, 31, 32, 33, 34, 35, 36, 37, 38, 39, 40, 41, 42, 43]⟩)], [], [(3, (chainT [(0, false), (1, false), (2, false)] (.join ⟨[(25, .leaf .bool)], [19, 20, 21, 22, 23, 24]⟩ (chainT [(3, false), (4, false), (5, false), (6, false), (7, false), (8, false), (9, false)] .nil) .nil)))]⟩
def wp_dunnagelaw11_PlainDiffers (a : Sl) (b : Sl) (h : Mem) (Q : Bool → Mem → Prop) : Prop :=
  CallF PG fn_dunnagehelp_CopyPairs [Value.slice a.a a.len a.cap] (Kd.one (Cmp.leaf Leaf.sl)) h fun (s1 : Sl) (h2 : Mem) =>
    CallF PG fn_dunnagehelp_CopyPairs [Value.slice b.a b.len b.cap] (Kd.one (Cmp.leaf Leaf.sl)) h2 fun (s3 : Sl) (h4 : Mem) =>
      CallF PG fn_plain_Differ [Value.slice s1.a s1.len s1.cap, Value.slice s3.a s3.len s3.cap] (Kd.one (Cmp.leaf Leaf.sl)) h4 fun (s5 : Sl) (h6 : Mem) =>
        CallF PG fn_dunnagelaw11_awake [] (Kd.one (Cmp.leaf Leaf.bool)) h6 fun (b7 : Bool) (h8 : Mem) =>
          ∃ (I9 : Bool → Mem → Prop),
            (∀ (j10 : Fr) (b11 : Bool) (h12 : Mem),
                I9 b11 h12 →
                  Br b11 (Q false h12)
                    (∃ (I13 : Int → Mem → Prop),
                      ∃ (I14 : Int → Mem → Nat),
                        I13 0 h12 ∧
                          ∀ (j15 : Fr) (n16 : Int) (h17 : Mem),
                            I13 n16 h17 →
                              Br (decide (n16 < (↑s5.len : Int)))
                                (Idx s5.a s5.len n16 fun (p18 : Addr) =>
                                  Ld PG ty_sl_uint8 ((p18.add (n16.toNat * 5)).add 3) (Kd.one (Cmp.leaf Leaf.sl)) h17 fun (s19 : Sl) =>
                                    CallF PG fn_dunnagehelp_Spoil [Value.slice s19.a s19.len s19.cap] (Kd.tup []) h17 fun (h20 : Mem) =>
                                      Idx s5.a s5.len n16 fun (p21 : Addr) =>
                                        Ld PG ty_sl_uint8 ((p21.add (n16.toNat * 5)).add 4) (Kd.one (Cmp.leaf Leaf.sl)) h20 fun (s22 : Sl) =>
                                          CallF PG fn_dunnagehelp_Spoil [Value.slice s22.a s22.len s22.cap] (Kd.tup []) h20 fun (h23 : Mem) =>
                                            I13 (IntKind.i64.wrap (n16 + 1)) h23 ∧ I14 (IntKind.i64.wrap (n16 + 1)) h23 < I14 n16 h17)
                                (CallF PG fn_dunnagehelp_Pairs [Value.slice s1.a s1.len s1.cap, Value.slice a.a a.len a.cap] (Kd.one (Cmp.leaf Leaf.bool)) h17 fun (b24 : Bool) (h25 : Mem) =>
                                  Br b24
                                    (CallF PG fn_dunnagehelp_Pairs [Value.slice s3.a s3.len s3.cap, Value.slice b.a b.len b.cap] (Kd.one (Cmp.leaf Leaf.bool)) h25 fun (b26 : Bool) (h27 : Mem) =>
                                      Q b26 h27)
                                    (Q false h25)))) ∧
              Br (!b7) (I9 true h8)
                (CallF PG 71  [Value.slice a.a a.len a.cap, Value.slice b.a b.len b.cap] (Kd.one (Cmp.leaf Leaf.sl)) h8 fun (s28 : Sl) (h29 : Mem) =>
                  CallF PG fn_dunnagehelp_Diffs [Value.slice s5.a s5.len s5.cap, Value.slice s28.a s28.len s28.cap] (Kd.one (Cmp.leaf Leaf.bool)) h29 fun (b30 : Bool) (h31 : Mem) =>
                    I9 (!b30) h31)
theorem eq_dunnagelaw11_PlainDiffers (a : Sl) (b : Sl) (h : Mem) (Q : Bool → Mem → Prop) : wp_dunnagelaw11_PlainDiffers a b h Q = evFn PG fn_dunnagelaw11_PlainDiffers tab_dunnagelaw11_PlainDiffers [.slice a.a a.len a.cap, .slice b.a b.len b.cap] (.one (.leaf .bool)) h Q := by kernel_rfl
theorem ok_dunnagelaw11_PlainDiffers : okF PG fn_dunnagelaw11_PlainDiffers tab_dunnagelaw11_PlainDiffers = true := by kernel_rfl
theorem call_dunnagelaw11_PlainDiffers {a : Sl} {b : Sl} {h : Mem} {Q : Bool → Mem → Prop} (w : wp_dunnagelaw11_PlainDiffers a b h Q) : CallF PG fn_dunnagelaw11_PlainDiffers [.slice a.a a.len a.cap, .slice b.a b.len b.cap] (.one (.leaf .bool)) h Q := callF_of PM ok_dunnagelaw11_PlainDiffers (eq_dunnagelaw11_PlainDiffers a b h Q ▸ w)

/- 20: dunnage/dunnagelaw11.PlainBack; loop 6: [x, i] -/
def tab_dunnagelaw11_PlainBack : Tab := ⟨[(6, ⟨[(6, .leaf .sl), (7, .leaf (.int .i64))], [4, 8, 9, 10, 34, 35, 36, 37, 38, 39, 40, 41, 42, 43, 44, 45, 46, 47, 48, 49, 50, 51, 52, 53, 54, 55, 56, 57, 58, 59, 60, 61, 62, 63, 64, 65, 66]⟩)], [], [(3, (chainT [(0, false), (1, false)] (.join ⟨[(31, .leaf .bool)], [28, 29, 30]⟩ (chainT [(2, false), (3, false), (4, false), (5, false)] .nil) (chainT [(6, false)] .nil)))), (2, (chainT [(0, false), (1, false), (2, false)] (.join ⟨[(20, .leaf .bool)], [17, 18, 19]⟩ (chainT [(3, false), (4, false), (5, false), (6, false)] .nil) (chainT [(7, false)] (.join ⟨[(25, .leaf .bool)], [22, 23, 24]⟩ (chainT [(8, false), (9, false), (10, false), (11, false)] .nil) .nil)))))]⟩
def wp_dunnagelaw11_PlainBack (a : Sl) (b : Sl) (h : Mem) (Q : Bool → Mem → Prop) : Prop :=
  CallF PG fn_plain_Differ [Value.slice a.a a.len a.cap, Value.slice b.a b.len b.cap] (Kd.one (Cmp.leaf Leaf.sl)) h fun (s1 : Sl) (h2 : Mem) =>
    CallF PG fn_dunnagelaw11_awake [] (Kd.one (Cmp.leaf Leaf.bool)) h2 fun (b3 : Bool) (h4 : Mem) =>
      ∃ (I5 : Bool → Mem → Prop),
        (∀ (j6 : Fr) (b7 : Bool) (h8 : Mem),
            I5 b7 h8 →
              ∃ (I9 : Bool → Mem → Prop),
                (∀ (j10 : Fr) (b11 : Bool) (h12 : Mem),
                    I9 b11 h12 →
                      Br b11
                        (CallF PG fn_dunnagelaw11_awake [] (Kd.one (Cmp.leaf Leaf.bool)) h12 fun (b13 : Bool) (h14 : Mem) =>
                          ∃ (I15 : Bool → Mem → Prop), (∀ (j16 : Fr) (b17 : Bool) (h18 : Mem), I15 b17 h18 → Q b17 h18) ∧ Br b13 (I15 ((↑s1.len : Int) == 0) h14) (I15 false h14))
                        (CallF PG fn_dunnagehelp_CopyPairs [Value.slice a.a a.len a.cap] (Kd.one (Cmp.leaf Leaf.sl)) h12 fun (s19 : Sl) (h20 : Mem) =>
                          ∃ (I21 : Sl → Int → Mem → Prop),
                            ∃ (I22 : Sl → Int → Mem → Nat),
                              I21 (Sl.mk s19.a s19.len s19.cap) 0 h20 ∧
                                ∀ (j23 : Fr) (s24 : Sl) (n25 : Int) (h26 : Mem),
                                  I21 s24 n25 h26 →
                                    Br (decide (n25 < (↑s1.len : Int)))
                                      (Idx s1.a s1.len n25 fun (p27 : Addr) =>
                                        Ld PG ty_string (p27.add (n25.toNat * 5)) (Kd.one (Cmp.leaf Leaf.str)) h26 fun (t28 : ByteArray) =>
                                          Idx s1.a s1.len n25 fun (p29 : Addr) =>
                                            Ld PG ty_sl_uint8 ((p29.add (n25.toNat * 5)).add 4) (Kd.one (Cmp.leaf Leaf.sl)) h26 fun (s30 : Sl) =>
                                              Idx s1.a s1.len n25 fun (p31 : Addr) =>
                                                Ld PG ty_bool ((p31.add (n25.toNat * 5)).add 2) (Kd.one (Cmp.leaf Leaf.bool)) h26 fun (b32 : Bool) =>
                                                  New (Obj.cells #[Value.string (ByteArray.mk #[]), Value.slice none 0 0, Value.bool false] ty_api_Op) h26 fun (k33 : Nat) (h34 : Mem) =>
                                                    (Ld PG ty_bool ((p31.add (n25.toNat * 5)).add 2) (Kd.one (Cmp.leaf Leaf.bool)) h34 fun (b35 : Bool) =>
                                                        Value.bool b35 = Value.bool b32) ∧
                                                      (Ld PG ty_sl_uint8 ((p29.add (n25.toNat * 5)).add 4) (Kd.one (Cmp.leaf Leaf.sl)) h34 fun (s36 : Sl) =>
                                                          Value.slice s36.a s36.len s36.cap = Value.slice s30.a s30.len s30.cap) ∧
                                                        (Ld PG ty_string (p27.add (n25.toNat * 5)) (Kd.one (Cmp.leaf Leaf.str)) h34 fun (t37 : ByteArray) =>
                                                            Value.string t37 = Value.string t28) ∧
                                                          St PG ty_api_Op (Addr.mk k33 0 none) (Value.agg #[Value.string t28, Value.slice s30.a s30.len s30.cap, Value.bool !b32]) h34
                                                            fun (h38 : Mem) =>
                                                            Ld PG ty_api_Op (Addr.mk k33 0 none) (Kd.one (Cmp.agg [Leaf.str, Leaf.sl, Leaf.bool])) h38
                                                              fun (t39 : ByteArray) (s40 : Sl) (b41 : Bool) =>
                                                              New (Obj.cells #[Value.string t39, Value.slice s40.a s40.len s40.cap, Value.bool b41] ty_api_Op) h38
                                                                fun (k42 : Nat) (h43 : Mem) =>
                                                                CallF PG fn_plain_Do [Value.slice s24.a s24.len s24.cap, Value.slice (some (Addr.mk k42 0 none)) 1 1]
                                                                  (Kd.tup [Cmp.leaf Leaf.sl, Cmp.leaf (Leaf.int IntKind.i64)]) h43 fun (s44 : Sl) (n45 : Int) (h46 : Mem) =>
                                                                  Br (n45 != 0) (Q false h46)
                                                                    (I21 (Sl.mk s44.a s44.len s44.cap) (IntKind.i64.wrap (n25 + 1)) h46 ∧
                                                                      I22 (Sl.mk s44.a s44.len s44.cap) (IntKind.i64.wrap (n25 + 1)) h46 < I22 s24 n25 h26))
                                      (CallF PG fn_dunnagehelp_Pairs [Value.slice s24.a s24.len s24.cap, Value.slice b.a b.len b.cap] (Kd.one (Cmp.leaf Leaf.bool)) h26
                                        fun (b47 : Bool) (h48 : Mem) =>
                                        Br b47
                                          (CallF PG fn_dunnagehelp_Pairs [Value.slice a.a a.len a.cap, Value.slice b.a b.len b.cap] (Kd.one (Cmp.leaf Leaf.bool)) h48
                                            fun (b49 : Bool) (h50 : Mem) =>
                                            Br (((↑s1.len : Int) == 0) == b49)
                                              (CallF PG fn_plain_Differ [Value.slice a.a a.len a.cap, Value.slice a.a a.len a.cap] (Kd.one (Cmp.leaf Leaf.sl)) h50
                                                fun (s51 : Sl) (h52 : Mem) => Q ((↑s51.len : Int) == 0) h52)
                                              (Q false h50))
                                          (Q false h48)))) ∧
                  Br b7 (I9 true h8)
                    (CallF PG fn_plain_Check [Value.slice b.a b.len b.cap] (Kd.one (Cmp.leaf (Leaf.int IntKind.i64))) h8 fun (n53 : Int) (h54 : Mem) => I9 (n53 != 0) h54)) ∧
          Br (!b3) (I5 true h4) (CallF PG fn_plain_Check [Value.slice a.a a.len a.cap] (Kd.one (Cmp.leaf (Leaf.int IntKind.i64))) h4 fun (n55 : Int) (h56 : Mem) => I5 (n55 != 0) h56)
theorem eq_dunnagelaw11_PlainBack (a : Sl) (b : Sl) (h : Mem) (Q : Bool → Mem → Prop) : wp_dunnagelaw11_PlainBack a b h Q = evFn PG fn_dunnagelaw11_PlainBack tab_dunnagelaw11_PlainBack [.slice a.a a.len a.cap, .slice b.a b.len b.cap] (.one (.leaf .bool)) h Q := by kernel_rfl
theorem ok_dunnagelaw11_PlainBack : okF PG fn_dunnagelaw11_PlainBack tab_dunnagelaw11_PlainBack = true := by kernel_rfl
theorem call_dunnagelaw11_PlainBack {a : Sl} {b : Sl} {h : Mem} {Q : Bool → Mem → Prop} (w : wp_dunnagelaw11_PlainBack a b h Q) : CallF PG fn_dunnagelaw11_PlainBack [.slice a.a a.len a.cap, .slice b.a b.len b.cap] (.one (.leaf .bool)) h Q := callF_of PM ok_dunnagelaw11_PlainBack (eq_dunnagelaw11_PlainBack a b h Q ▸ w)

/- 21: dunnage/dunnagelaw10.BatchChecks; loop 6: [i] -/
def tab_dunnagelaw10_BatchChecks : Tab := ⟨[(6, ⟨[(5, .leaf (.int .i64))], [33, 34, 35, 36, 37, 38, 39, 40, 41, 42, 43, 44]⟩)], [], [(3, (chainT [(0, false), (1, false), (2, false)] (.join ⟨[(18, .leaf .bool)], [13, 14, 15, 16, 17]⟩ (chainT [(3, false), (4, false), (5, false), (6, false), (7, false), (8, false)] .nil) (chainT [(9, false), (10, false), (11, false), (12, false), (13, false), (14, false), (15, false), (16, false), (17, false), (18, false), (19, false), (20, false), (21, false), (22, false)] .nil))))]⟩
def wp_dunnagelaw10_BatchChecks (ops : Sl) (h : Mem) (Q : Bool → Mem → Prop) : Prop :=
  CallF PG fn_dunnagehelp_CopyOps [Value.slice ops.a ops.len ops.cap] (Kd.one (Cmp.leaf Leaf.sl)) h fun (s1 : Sl) (h2 : Mem) =>
    CallF PG fn_batch_Last [Value.slice s1.a s1.len s1.cap] (Kd.one (Cmp.leaf Leaf.sl)) h2 fun (s3 : Sl) (h4 : Mem) =>
      CallF PG fn_dunnagelaw10_awake [] (Kd.one (Cmp.leaf Leaf.bool)) h4 fun (b5 : Bool) (h6 : Mem) =>
        ∃ (I7 : Bool → Mem → Prop),
          (∀ (j8 : Fr) (b9 : Bool) (h10 : Mem),
              I7 b9 h10 →
                Br b9 (Q false h10)
                  (CallF PG fn_batch_Size [Value.slice s1.a s1.len s1.cap] (Kd.one (Cmp.leaf (Leaf.int IntKind.i64))) h10 fun (n11 : Int) (h12 : Mem) =>
                    CallF PG fn_dunnageref10_Size [Value.slice ops.a ops.len ops.cap] (Kd.one (Cmp.leaf (Leaf.int IntKind.i64))) h12 fun (n13 : Int) (h14 : Mem) =>
                      Br (n11 != n13) (Q false h14)
                        (CallF PG fn_dunnageref10_Last [Value.slice ops.a ops.len ops.cap] (Kd.one (Cmp.leaf Leaf.sl)) h14 fun (s15 : Sl) (h16 : Mem) =>
                          CallF PG fn_dunnagehelp_Ops [Value.slice s3.a s3.len s3.cap, Value.slice s15.a s15.len s15.cap] (Kd.one (Cmp.leaf Leaf.bool)) h16 fun (b17 : Bool) (h18 : Mem) =>
                            Br (!b17) (Q false h18)
                              (∃ (I19 : Int → Mem → Prop),
                                ∃ (I20 : Int → Mem → Nat),
                                  I19 0 h18 ∧
                                    ∀ (j21 : Fr) (n22 : Int) (h23 : Mem),
                                      I19 n22 h23 →
                                        Br (decide (n22 < (↑s3.len : Int)))
                                          (Idx s3.a s3.len n22 fun (p24 : Addr) =>
                                            Ld PG ty_sl_uint8 ((p24.add (n22.toNat * 3)).add 1) (Kd.one (Cmp.leaf Leaf.sl)) h23 fun (s25 : Sl) =>
                                              CallF PG fn_dunnagehelp_Spoil [Value.slice s25.a s25.len s25.cap] (Kd.tup []) h23 fun (h26 : Mem) =>
                                                I19 (IntKind.i64.wrap (n22 + 1)) h26 ∧ I20 (IntKind.i64.wrap (n22 + 1)) h26 < I20 n22 h23)
                                          (CallF PG fn_dunnagehelp_Ops [Value.slice s1.a s1.len s1.cap, Value.slice ops.a ops.len ops.cap] (Kd.one (Cmp.leaf Leaf.bool)) h23
                                            fun (b27 : Bool) (h28 : Mem) => Q b27 h28))))) ∧
            Br (!b5) (I7 true h6)
              (CallF PG fn_batch_Check [Value.slice s1.a s1.len s1.cap] (Kd.one (Cmp.leaf (Leaf.int IntKind.i64))) h6 fun (n29 : Int) (h30 : Mem) =>
                CallF PG fn_dunnageref10_Check [Value.slice ops.a ops.len ops.cap] (Kd.one (Cmp.leaf (Leaf.int IntKind.i64))) h30 fun (n31 : Int) (h32 : Mem) => I7 (n29 != n31) h32)
theorem eq_dunnagelaw10_BatchChecks (ops : Sl) (h : Mem) (Q : Bool → Mem → Prop) : wp_dunnagelaw10_BatchChecks ops h Q = evFn PG fn_dunnagelaw10_BatchChecks tab_dunnagelaw10_BatchChecks [.slice ops.a ops.len ops.cap] (.one (.leaf .bool)) h Q := by kernel_rfl
theorem ok_dunnagelaw10_BatchChecks : okF PG fn_dunnagelaw10_BatchChecks tab_dunnagelaw10_BatchChecks = true := by kernel_rfl
theorem call_dunnagelaw10_BatchChecks {ops : Sl} {h : Mem} {Q : Bool → Mem → Prop} (w : wp_dunnagelaw10_BatchChecks ops h Q) : CallF PG fn_dunnagelaw10_BatchChecks [.slice ops.a ops.len ops.cap] (.one (.leaf .bool)) h Q := callF_of PM ok_dunnagelaw10_BatchChecks (eq_dunnagelaw10_BatchChecks ops h Q ▸ w)

/- 22: dunnage/dunnagelaw10.BatchLast; loop 5: [i]; loop 9: [at, k] -/
def tab_dunnagelaw10_BatchLast : Tab := ⟨[(5, ⟨[(6, .leaf (.int .i64))], [4, 7, 8, 22, 23, 24, 25, 26, 27, 28, 29, 30, 31, 32, 33, 34, 35, 36, 37, 38, 39, 40, 41, 42, 43, 44, 45, 46, 47, 48, 49, 50, 51, 52, 53, 54, 55, 56, 57, 58, 59, 60, 61, 62, 63, 64, 65, 66, 67, 68, 69, 70, 71, 72, 73, 74, 75, 76, 77]⟩), (9, ⟨[(7, .leaf (.int .i64)), (8, .leaf (.int .i64))], [28, 29, 30, 31, 32, 33, 34, 35, 36, 37, 38, 39, 40, 41, 42, 43, 44, 45]⟩)], [], [(2, (chainT [(0, false), (1, false), (2, false)] (.join ⟨[(21, .leaf .bool)], [16, 17, 18, 19, 20]⟩ (chainT [(3, false), (4, false), (5, false), (6, false), (7, false), (8, false)] .nil) .nil)))]⟩
def wp_dunnagelaw10_BatchLast (a : Sl) (b : Sl) (h : Mem) (Q : Bool → Mem → Prop) : Prop :=
  CallF PG fn_batch_Last [Value.slice a.a a.len a.cap] (Kd.one (Cmp.leaf Leaf.sl)) h fun (s1 : Sl) (h2 : Mem) =>
    CallF PG fn_dunnagelaw10_awake [] (Kd.one (Cmp.leaf Leaf.bool)) h2 fun (b3 : Bool) (h4 : Mem) =>
      ∃ (I5 : Bool → Mem → Prop),
        (∀ (j6 : Fr) (b7 : Bool) (h8 : Mem),
            I5 b7 h8 →
              Br b7 (Q false h8)
                (∃ (I9 : Int → Mem → Prop),
                  ∃ (I10 : Int → Mem → Nat),
                    I9 0 h8 ∧
                      ∀ (j11 : Fr) (n12 : Int) (h13 : Mem),
                        I9 n12 h13 →
                          Br (decide (n12 < (↑s1.len : Int)))
                            (∃ (I14 : Int → Int → Mem → Prop),
                              ∃ (I15 : Int → Int → Mem → Nat),
                                I14 (-1) 0 h13 ∧
                                  ∀ (j16 : Fr) (n17 n18 : Int) (h19 : Mem),
                                    I14 n17 n18 h19 →
                                      Br (decide (n18 < (↑a.len : Int)))
                                        (Idx a.a a.len n18 fun (p20 : Addr) =>
                                          Ld PG ty_string (p20.add (n18.toNat * 3)) (Kd.one (Cmp.leaf Leaf.str)) h19 fun (t21 : ByteArray) =>
                                            Idx s1.a s1.len n12 fun (p22 : Addr) =>
                                              Ld PG ty_string (p22.add (n12.toNat * 3)) (Kd.one (Cmp.leaf Leaf.str)) h19 fun (t23 : ByteArray) =>
                                                Br (sEq t21 t23) (I14 n18 (IntKind.i64.wrap (n18 + 1)) h19 ∧ I15 n18 (IntKind.i64.wrap (n18 + 1)) h19 < I15 n17 n18 h19)
                                                  (I14 n17 (IntKind.i64.wrap (n18 + 1)) h19 ∧ I15 n17 (IntKind.i64.wrap (n18 + 1)) h19 < I15 n17 n18 h19))
                                        (Br (decide (n17 < 0)) (Q false h19)
                                          (Idx a.a a.len n17 fun (p24 : Addr) =>
                                            Ld PG ty_api_Op (p24.add (n17.toNat * 3)) (Kd.one (Cmp.agg [Leaf.str, Leaf.sl, Leaf.bool])) h19
                                              fun (t25 : ByteArray) (s26 : Sl) (b27 : Bool) =>
                                              Idx s1.a s1.len n12 fun (p28 : Addr) =>
                                                Ld PG ty_api_Op (p28.add (n12.toNat * 3)) (Kd.one (Cmp.agg [Leaf.str, Leaf.sl, Leaf.bool])) h19
                                                  fun (t29 : ByteArray) (s30 : Sl) (b31 : Bool) =>
                                                  CallF PG fn_dunnagehelp_Op 
                                                    [Value.agg #[Value.string t25, Value.slice s26.a s26.len s26.cap, Value.bool b27],
                                                      Value.agg #[Value.string t29, Value.slice s30.a s30.len s30.cap, Value.bool b31]]
                                                    (Kd.one (Cmp.leaf Leaf.bool)) h19 fun (b32 : Bool) (h33 : Mem) =>
                                                    Br (!b32) (Q false h33)
                                                      (Br (decide (n12 > 0))
                                                        (Idx s1.a s1.len (IntKind.i64.wrap (n12 - 1)) fun (p34 : Addr) =>
                                                          Ld PG ty_string (p34.add ((IntKind.i64.wrap (n12 - 1)).toNat * 3)) (Kd.one (Cmp.leaf Leaf.str)) h33 fun (t35 : ByteArray) =>
                                                            Idx s1.a s1.len n12 fun (p36 : Addr) =>
                                                              Ld PG ty_string (p36.add (n12.toNat * 3)) (Kd.one (Cmp.leaf Leaf.str)) h33 fun (t37 : ByteArray) =>
                                                                Br (!sLt t35 t37) (Q false h33)
                                                                  (I9 (IntKind.i64.wrap (n12 + 1)) h33 ∧ I10 (IntKind.i64.wrap (n12 + 1)) h33 < I10 n12 h13))
                                                        (I9 (IntKind.i64.wrap (n12 + 1)) h33 ∧ I10 (IntKind.i64.wrap (n12 + 1)) h33 < I10 n12 h13)))))
                            (CallF PG fn_dunnagehelp_CopyOps [Value.slice a.a a.len a.cap] (Kd.one (Cmp.leaf Leaf.sl)) h13 fun (s38 : Sl) (h39 : Mem) =>
                              PrimT PG (Builtin.append_ #[ty_sl_api_Op, ty_sl_api_Op] ty_sl_api_Op #[Value.slice s38.a s38.len s38.cap, Value.slice b.a b.len b.cap]) (Kd.one (Cmp.leaf Leaf.sl)) h39
                                fun (s40 : Sl) (h41 : Mem) =>
                                CallF PG fn_dunnagehelp_CopyOps [Value.slice s1.a s1.len s1.cap] (Kd.one (Cmp.leaf Leaf.sl)) h41 fun (s42 : Sl) (h43 : Mem) =>
                                  CallF PG fn_batch_Last [Value.slice b.a b.len b.cap] (Kd.one (Cmp.leaf Leaf.sl)) h43 fun (s44 : Sl) (h45 : Mem) =>
                                    PrimT PG (Builtin.append_ #[ty_sl_api_Op, ty_sl_api_Op] ty_sl_api_Op #[Value.slice s42.a s42.len s42.cap, Value.slice s44.a s44.len s44.cap]) (Kd.one (Cmp.leaf Leaf.sl))
                                      h45 fun (s46 : Sl) (h47 : Mem) =>
                                      CallF PG fn_batch_Last [Value.slice s40.a s40.len s40.cap] (Kd.one (Cmp.leaf Leaf.sl)) h47 fun (s48 : Sl) (h49 : Mem) =>
                                        CallF PG fn_batch_Last [Value.slice s46.a s46.len s46.cap] (Kd.one (Cmp.leaf Leaf.sl)) h49 fun (s50 : Sl) (h51 : Mem) =>
                                          CallF PG fn_dunnagehelp_Ops [Value.slice s48.a s48.len s48.cap, Value.slice s50.a s50.len s50.cap] (Kd.one (Cmp.leaf Leaf.bool)) h51
                                            fun (b52 : Bool) (h53 : Mem) => Q b52 h53))) ∧
          Br (!b3) (I5 true h4)
            (CallF PG fn_batch_Last [Value.slice s1.a s1.len s1.cap] (Kd.one (Cmp.leaf Leaf.sl)) h4 fun (s54 : Sl) (h55 : Mem) =>
              CallF PG fn_dunnagehelp_Ops [Value.slice s54.a s54.len s54.cap, Value.slice s1.a s1.len s1.cap] (Kd.one (Cmp.leaf Leaf.bool)) h55 fun (b56 : Bool) (h57 : Mem) => I5 (!b56) h57)
theorem eq_dunnagelaw10_BatchLast (a : Sl) (b : Sl) (h : Mem) (Q : Bool → Mem → Prop) : wp_dunnagelaw10_BatchLast a b h Q = evFn PG fn_dunnagelaw10_BatchLast tab_dunnagelaw10_BatchLast [.slice a.a a.len a.cap, .slice b.a b.len b.cap] (.one (.leaf .bool)) h Q := by kernel_rfl
theorem ok_dunnagelaw10_BatchLast : okF PG fn_dunnagelaw10_BatchLast tab_dunnagelaw10_BatchLast = true := by kernel_rfl
theorem call_dunnagelaw10_BatchLast {a : Sl} {b : Sl} {h : Mem} {Q : Bool → Mem → Prop} (w : wp_dunnagelaw10_BatchLast a b h Q) : CallF PG fn_dunnagelaw10_BatchLast [.slice a.a a.len a.cap, .slice b.a b.len b.cap] (.one (.leaf .bool)) h Q := callF_of PM ok_dunnagelaw10_BatchLast (eq_dunnagelaw10_BatchLast a b h Q ▸ w)

/- 23: dunnage/dunnagelaw10.BatchFits; loop 6: [i] -/
def tab_dunnagelaw10_BatchFits : Tab := ⟨[(6, ⟨[(9, .leaf (.int .i64))], [10, 29, 30, 31, 32, 33, 34, 35, 36, 37, 38, 39, 40, 41, 42, 43, 44, 45, 46, 47, 48, 49, 50, 51, 52, 53, 54, 55, 56, 57, 58, 59, 60, 61, 62, 63, 64, 65, 66, 67, 68, 69, 70, 71, 72, 73, 74, 75, 76, 77, 78]⟩)], [], [(1, (chainT [(0, false), (1, false), (2, false)] (.join ⟨[(19, .leaf .bool)], [16, 17, 18]⟩ (chainT [(3, false), (4, false), (5, false), (6, false)] .nil) (chainT [(7, false)] (.join ⟨[(23, .leaf .bool)], [21, 22]⟩ (chainT [(8, false), (9, false), (10, false)] .nil) .nil)))))]⟩
def wp_dunnagelaw10_BatchFits (ops : Sl) (seq : Int) (refs : Sl) (h : Mem) (Q : Bool → Mem → Prop) : Prop :=
  CallF PG fn_dunnagelaw10_awake [] (Kd.one (Cmp.leaf Leaf.bool)) h fun (b1 : Bool) (h2 : Mem) =>
    ∃ (I3 : Bool → Mem → Prop),
      (∀ (j4 : Fr) (b5 : Bool) (h6 : Mem),
          I3 b5 h6 →
            ∃ (I7 : Bool → Mem → Prop),
              (∀ (j8 : Fr) (b9 : Bool) (h10 : Mem),
                  I7 b9 h10 →
                    Br b9 (CallF PG fn_dunnagelaw10_awake [] (Kd.one (Cmp.leaf Leaf.bool)) h10 fun (b11 : Bool) (h12 : Mem) => Q b11 h12)
                      (CallF PG fn_batch_Last [Value.slice ops.a ops.len ops.cap] (Kd.one (Cmp.leaf Leaf.sl)) h10 fun (s13 : Sl) (h14 : Mem) =>
                        New
                          (Obj.cells
                            #[Value.int IntKind.i64 0, Value.int IntKind.u64 0, Value.slice none 0 0, Value.int IntKind.u64 0, Value.int IntKind.i64 0, Value.int IntKind.i64 0,
                              Value.int IntKind.i64 0]
                            38)
                          h14 fun (k15 : Nat) (h16 : Mem) =>
                          St PG ty_api_Record (Addr.mk k15 0 none)
                            (Value.agg
                              #[Value.int IntKind.i64 1, Value.int IntKind.u64 seq, Value.slice none 0 0, Value.int IntKind.u64 0, Value.int IntKind.i64 0, Value.int IntKind.i64 0,
                                Value.int IntKind.i64 0])
                            h16 fun (h17 : Mem) =>
                            ∃ (I18 : Int → Mem → Prop),
                              ∃ (I19 : Int → Mem → Nat),
                                I18 0 h17 ∧
                                  ∀ (j20 : Fr) (n21 : Int) (h22 : Mem),
                                    I18 n21 h22 →
                                      Br (decide (n21 < (↑s13.len : Int)))
                                        (Idx s13.a s13.len n21 fun (p23 : Addr) =>
                                          Ld PG ty_string (p23.add (n21.toNat * 3)) (Kd.one (Cmp.leaf Leaf.str)) h22 fun (t24 : ByteArray) =>
                                            Idx s13.a s13.len n21 fun (p25 : Addr) =>
                                              Ld PG ty_bool ((p25.add (n21.toNat * 3)).add 2) (Kd.one (Cmp.leaf Leaf.bool)) h22 fun (b26 : Bool) =>
                                                New
                                                  (Obj.cells
                                                    #[Value.string (ByteArray.mk #[]), Value.int IntKind.u64 0, Value.int IntKind.i64 0, Value.int IntKind.i64 0, Value.bool false]
                                                    43)
                                                  h22 fun (k27 : Nat) (h28 : Mem) =>
                                                  (Ld PG ty_bool ((p25.add (n21.toNat * 3)).add 2) (Kd.one (Cmp.leaf Leaf.bool)) h28 fun (b29 : Bool) =>
                                                      Value.bool b29 = Value.bool b26) ∧
                                                    (Ld PG ty_string (p23.add (n21.toNat * 3)) (Kd.one (Cmp.leaf Leaf.str)) h28 fun (t30 : ByteArray) =>
                                                        Value.string t30 = Value.string t24) ∧
                                                      St PG ty_api_Change (Addr.mk k27 0 none)
                                                        (Value.agg #[Value.string t24, Value.int IntKind.u64 0, Value.int IntKind.i64 0, Value.int IntKind.i64 0, Value.bool b26]) h28
                                                        fun (h31 : Mem) =>
                                                        Ld PG ty_bool ((Addr.mk k27 0 none).add 4) (Kd.one (Cmp.leaf Leaf.bool)) h31 fun (b32 : Bool) =>
                                                          Br (!b32)
                                                            (Idx s13.a s13.len n21 fun (p33 : Addr) =>
                                                              Ld PG ty_sl_uint8 ((p33.add (n21.toNat * 3)).add 1) (Kd.one (Cmp.leaf Leaf.sl)) h31 fun (s34 : Sl) =>
                                                                St PG ty_api_Ref ((Addr.mk k27 0 none).add 1)
                                                                  (Value.agg
                                                                    #[Value.int IntKind.u64 18446744073709551615, Value.int IntKind.i64 65536,
                                                                      Value.int IntKind.i64 (↑s34.len : Int)])
                                                                  h31 fun (h35 : Mem) =>
                                                                  Br (decide (n21 < (↑refs.len : Int)))
                                                                    (Idx refs.a refs.len n21 fun (p36 : Addr) =>
                                                                      Ld PG ty_api_Ref (p36.add (n21.toNat * 3))
                                                                        (Kd.one (Cmp.agg [Leaf.int IntKind.u64, Leaf.int IntKind.i64, Leaf.int IntKind.i64])) h35
                                                                        fun (n37 n38 n39 : Int) =>
                                                                        CallF PG fn_dunnageref10_MayRef 
                                                                          [Value.agg #[Value.int IntKind.u64 n37, Value.int IntKind.i64 n38, Value.int IntKind.i64 n39]]
                                                                          (Kd.one (Cmp.leaf Leaf.bool)) h35 fun (b40 : Bool) (h41 : Mem) =>
                                                                          Br b40
                                                                            (Idx refs.a refs.len n21 fun (p42 : Addr) =>
                                                                              Ld PG ty_api_Ref (p42.add (n21.toNat * 3))
                                                                                (Kd.one (Cmp.agg [Leaf.int IntKind.u64, Leaf.int IntKind.i64, Leaf.int IntKind.i64])) h41
                                                                                fun (n43 n44 n45 : Int) =>
                                                                                St PG ty_api_Ref ((Addr.mk k27 0 none).add 1)
                                                                                  (Value.agg #[Value.int IntKind.u64 n43, Value.int IntKind.i64 n44, Value.int IntKind.i64 n45]) h41
                                                                                  fun (h46 : Mem) =>
                                                                                  Ld PG ty_sl_api_Change ((Addr.mk k15 0 none).add 2) (Kd.one (Cmp.leaf Leaf.sl)) h46 fun (s47 : Sl) =>
                                                                                    Ld PG ty_api_Change (Addr.mk k27 0 none)
                                                                                      (Kd.one
                                                                                        (Cmp.agg
                                                                                          [Leaf.str, Leaf.int IntKind.u64, Leaf.int IntKind.i64, Leaf.int IntKind.i64, Leaf.bool]))
                                                                                      h46 fun (t48 : ByteArray) (n49 n50 n51 : Int) (b52 : Bool) =>
                                                                                      New
                                                                                        (Obj.cells
                                                                                          #[Value.string t48, Value.int IntKind.u64 n49, Value.int IntKind.i64 n50,
                                                                                            Value.int IntKind.i64 n51, Value.bool b52]
                                                                                          43)
                                                                                        h46 fun (k53 : Nat) (h54 : Mem) =>
                                                                                        PrimT PG
                                                                                          (Builtin.append_ #[ty_sl_api_Change, ty_sl_api_Change] ty_sl_api_Change
                                                                                            #[Value.slice s47.a s47.len s47.cap, Value.slice (some (Addr.mk k53 0 none)) 1 1])
                                                                                          (Kd.one (Cmp.leaf Leaf.sl)) h54 fun (s55 : Sl) (h56 : Mem) =>
                                                                                          St PG ty_sl_api_Change ((Addr.mk k15 0 none).add 2) (Value.slice s55.a s55.len s55.cap) h56
                                                                                            fun (h57 : Mem) =>
                                                                                            I18 (IntKind.i64.wrap (n21 + 1)) h57 ∧ I19 (IntKind.i64.wrap (n21 + 1)) h57 < I19 n21 h22)
                                                                            (Ld PG ty_sl_api_Change ((Addr.mk k15 0 none).add 2) (Kd.one (Cmp.leaf Leaf.sl)) h41 fun (s58 : Sl) =>
                                                                              Ld PG ty_api_Change (Addr.mk k27 0 none)
                                                                                (Kd.one
                                                                                  (Cmp.agg [Leaf.str, Leaf.int IntKind.u64, Leaf.int IntKind.i64, Leaf.int IntKind.i64, Leaf.bool]))
                                                                                h41 fun (t59 : ByteArray) (n60 n61 n62 : Int) (b63 : Bool) =>
                                                                                New
                                                                                  (Obj.cells
                                                                                    #[Value.string t59, Value.int IntKind.u64 n60, Value.int IntKind.i64 n61,
                                                                                      Value.int IntKind.i64 n62, Value.bool b63]
                                                                                    43)
                                                                                  h41 fun (k64 : Nat) (h65 : Mem) =>
                                                                                  PrimT PG
                                                                                    (Builtin.append_ #[ty_sl_api_Change, ty_sl_api_Change] ty_sl_api_Change
                                                                                      #[Value.slice s58.a s58.len s58.cap, Value.slice (some (Addr.mk k64 0 none)) 1 1])
                                                                                    (Kd.one (Cmp.leaf Leaf.sl)) h65 fun (s66 : Sl) (h67 : Mem) =>
                                                                                    St PG ty_sl_api_Change ((Addr.mk k15 0 none).add 2) (Value.slice s66.a s66.len s66.cap) h67
                                                                                      fun (h68 : Mem) =>
                                                                                      I18 (IntKind.i64.wrap (n21 + 1)) h68 ∧ I19 (IntKind.i64.wrap (n21 + 1)) h68 < I19 n21 h22))
                                                                    (Ld PG ty_sl_api_Change ((Addr.mk k15 0 none).add 2) (Kd.one (Cmp.leaf Leaf.sl)) h35 fun (s69 : Sl) =>
                                                                      Ld PG ty_api_Change (Addr.mk k27 0 none)
                                                                        (Kd.one (Cmp.agg [Leaf.str, Leaf.int IntKind.u64, Leaf.int IntKind.i64, Leaf.int IntKind.i64, Leaf.bool])) h35
                                                                        fun (t70 : ByteArray) (n71 n72 n73 : Int) (b74 : Bool) =>
                                                                        New
                                                                          (Obj.cells
                                                                            #[Value.string t70, Value.int IntKind.u64 n71, Value.int IntKind.i64 n72, Value.int IntKind.i64 n73,
                                                                              Value.bool b74]
                                                                            43)
                                                                          h35 fun (k75 : Nat) (h76 : Mem) =>
                                                                          PrimT PG
                                                                            (Builtin.append_ #[ty_sl_api_Change, ty_sl_api_Change] ty_sl_api_Change
                                                                              #[Value.slice s69.a s69.len s69.cap, Value.slice (some (Addr.mk k75 0 none)) 1 1])
                                                                            (Kd.one (Cmp.leaf Leaf.sl)) h76 fun (s77 : Sl) (h78 : Mem) =>
                                                                            St PG ty_sl_api_Change ((Addr.mk k15 0 none).add 2) (Value.slice s77.a s77.len s77.cap) h78 fun (h79 : Mem) =>
                                                                              I18 (IntKind.i64.wrap (n21 + 1)) h79 ∧ I19 (IntKind.i64.wrap (n21 + 1)) h79 < I19 n21 h22))
                                                            (Ld PG ty_sl_api_Change ((Addr.mk k15 0 none).add 2) (Kd.one (Cmp.leaf Leaf.sl)) h31 fun (s80 : Sl) =>
                                                              Ld PG ty_api_Change (Addr.mk k27 0 none)
                                                                (Kd.one (Cmp.agg [Leaf.str, Leaf.int IntKind.u64, Leaf.int IntKind.i64, Leaf.int IntKind.i64, Leaf.bool])) h31
                                                                fun (t81 : ByteArray) (n82 n83 n84 : Int) (b85 : Bool) =>
                                                                New
                                                                  (Obj.cells
                                                                    #[Value.string t81, Value.int IntKind.u64 n82, Value.int IntKind.i64 n83, Value.int IntKind.i64 n84,
                                                                      Value.bool b85]
                                                                    43)
                                                                  h31 fun (k86 : Nat) (h87 : Mem) =>
                                                                  PrimT PG
                                                                    (Builtin.append_ #[ty_sl_api_Change, ty_sl_api_Change] ty_sl_api_Change #[Value.slice s80.a s80.len s80.cap, Value.slice (some (Addr.mk k86 0 none)) 1 1])
                                                                    (Kd.one (Cmp.leaf Leaf.sl)) h87 fun (s88 : Sl) (h89 : Mem) =>
                                                                    St PG ty_sl_api_Change ((Addr.mk k15 0 none).add 2) (Value.slice s88.a s88.len s88.cap) h89 fun (h90 : Mem) =>
                                                                      I18 (IntKind.i64.wrap (n21 + 1)) h90 ∧ I19 (IntKind.i64.wrap (n21 + 1)) h90 < I19 n21 h22))
                                        (Ld PG ty_api_Record (Addr.mk k15 0 none)
                                          (Kd.one
                                            (Cmp.agg
                                              [Leaf.int IntKind.i64, Leaf.int IntKind.u64, Leaf.sl, Leaf.int IntKind.u64, Leaf.int IntKind.i64, Leaf.int IntKind.i64,
                                                Leaf.int IntKind.i64]))
                                          h22 fun (n91 n92 : Int) (s93 : Sl) (n94 n95 n96 n97 : Int) =>
                                          CallF PG fn_batch_Write 
                                            [Value.agg
                                                #[Value.int IntKind.i64 n91, Value.int IntKind.u64 n92, Value.slice s93.a s93.len s93.cap, Value.int IntKind.u64 n94,
                                                  Value.int IntKind.i64 n95, Value.int IntKind.i64 n96, Value.int IntKind.i64 n97]]
                                            (Kd.tup [Cmp.leaf Leaf.sl, Cmp.leaf (Leaf.int IntKind.i64)]) h22 fun (s98 : Sl) (n99 : Int) (h100 : Mem) =>
                                            Br (n99 == 0)
                                              (Br (decide ((↑s98.len : Int) ≤ 8192))
                                                (CallF PG fn_word_Var [Value.int IntKind.u64 seq] (Kd.one (Cmp.leaf Leaf.sl)) h100 fun (s101 : Sl) (h102 : Mem) =>
                                                  Q (decide ((↑s98.len : Int) ≥ IntKind.i64.wrap (1 + (↑s101.len : Int)))) h102)
                                                (Q false h100))
                                              (Q false h100)))) ∧
                Br b5 (I7 true h6) (I7 (decide (seq < 1)) h6)) ∧
        Br (!b1) (I3 true h2)
          (CallF PG fn_batch_Check [Value.slice ops.a ops.len ops.cap] (Kd.one (Cmp.leaf (Leaf.int IntKind.i64))) h2 fun (n103 : Int) (h104 : Mem) => I3 (n103 != 0) h104)
theorem eq_dunnagelaw10_BatchFits (ops : Sl) (seq : Int) (refs : Sl) (h : Mem) (Q : Bool → Mem → Prop) : wp_dunnagelaw10_BatchFits ops seq refs h Q = evFn PG fn_dunnagelaw10_BatchFits tab_dunnagelaw10_BatchFits [.slice ops.a ops.len ops.cap, .int .u64 seq, .slice refs.a refs.len refs.cap] (.one (.leaf .bool)) h Q := by kernel_rfl
theorem ok_dunnagelaw10_BatchFits : okF PG fn_dunnagelaw10_BatchFits tab_dunnagelaw10_BatchFits = true := by kernel_rfl
theorem call_dunnagelaw10_BatchFits {ops : Sl} {seq : Int} {refs : Sl} {h : Mem} {Q : Bool → Mem → Prop} (w : wp_dunnagelaw10_BatchFits ops seq refs h Q) : CallF PG fn_dunnagelaw10_BatchFits [.slice ops.a ops.len ops.cap, .int .u64 seq, .slice refs.a refs.len refs.cap] (.one (.leaf .bool)) h Q := callF_of PM ok_dunnagelaw10_BatchFits (eq_dunnagelaw10_BatchFits ops seq refs h Q ▸ w)

/- 24: dunnage/dunnagelaw11.PlainLast -/
def tab_dunnagelaw11_PlainLast : Tab := ⟨[], [], []⟩
def wp_dunnagelaw11_PlainLast (l : Sl) (ops : Sl) (h : Mem) (Q : Bool → Mem → Prop) : Prop :=
  CallF PG fn_plain_Do [Value.slice l.a l.len l.cap, Value.slice ops.a ops.len ops.cap] (Kd.tup [Cmp.leaf Leaf.sl, Cmp.leaf (Leaf.int IntKind.i64)]) h
    fun (s1 : Sl) (n2 : Int) (h3 : Mem) =>
    CallF PG fn_dunnagelaw11_awake [] (Kd.one (Cmp.leaf Leaf.bool)) h3 fun (b4 : Bool) (h5 : Mem) =>
      Br (!b4) (CallF PG fn_dunnagelaw11_awake [] (Kd.one (Cmp.leaf Leaf.bool)) h5 fun (b6 : Bool) (h7 : Mem) => Q b6 h7)
        (Br (n2 != 0) (CallF PG fn_dunnagelaw11_awake [] (Kd.one (Cmp.leaf Leaf.bool)) h5 fun (b8 : Bool) (h9 : Mem) => Q b8 h9)
          (CallF PG fn_batch_Last [Value.slice ops.a ops.len ops.cap] (Kd.one (Cmp.leaf Leaf.sl)) h5 fun (s10 : Sl) (h11 : Mem) =>
            CallF PG fn_plain_Do [Value.slice l.a l.len l.cap, Value.slice s10.a s10.len s10.cap] (Kd.tup [Cmp.leaf Leaf.sl, Cmp.leaf (Leaf.int IntKind.i64)]) h11
              fun (s12 : Sl) (n13 : Int) (h14 : Mem) =>
              Br (n13 == 0)
                (CallF PG fn_dunnagehelp_Pairs [Value.slice s1.a s1.len s1.cap, Value.slice s12.a s12.len s12.cap] (Kd.one (Cmp.leaf Leaf.bool)) h14 fun (b15 : Bool) (h16 : Mem) =>
                  Br b15 (CallF PG fn_plain_Check [Value.slice s1.a s1.len s1.cap] (Kd.one (Cmp.leaf (Leaf.int IntKind.i64))) h16 fun (n17 : Int) (h18 : Mem) => Q (n17 == 0) h18)
                    (Q false h16))
                (Q false h14)))
theorem eq_dunnagelaw11_PlainLast (l : Sl) (ops : Sl) (h : Mem) (Q : Bool → Mem → Prop) : wp_dunnagelaw11_PlainLast l ops h Q = evFn PG fn_dunnagelaw11_PlainLast tab_dunnagelaw11_PlainLast [.slice l.a l.len l.cap, .slice ops.a ops.len ops.cap] (.one (.leaf .bool)) h Q := by kernel_rfl
theorem ok_dunnagelaw11_PlainLast : okF PG fn_dunnagelaw11_PlainLast tab_dunnagelaw11_PlainLast = true := by kernel_rfl
theorem call_dunnagelaw11_PlainLast {l : Sl} {ops : Sl} {h : Mem} {Q : Bool → Mem → Prop} (w : wp_dunnagelaw11_PlainLast l ops h Q) : CallF PG fn_dunnagelaw11_PlainLast [.slice l.a l.len l.cap, .slice ops.a ops.len ops.cap] (.one (.leaf .bool)) h Q := callF_of PM ok_dunnagelaw11_PlainLast (eq_dunnagelaw11_PlainLast l ops h Q ▸ w)

end Go.Dn.W
