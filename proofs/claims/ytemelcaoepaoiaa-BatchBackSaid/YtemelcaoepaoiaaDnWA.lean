/- What each function asks for: typed text, and the theorem that the code does it. -/
import Derived.Test.YtemelcaoepaoiaaDnNames
set_option maxRecDepth 100000
set_option linter.unusedVariables false
namespace Go.Dn.W
open Go Go.Dn Go.Proofs

/- 9: dunnage/dunnagelaw10.BatchWrites -/
def tab_dunnagelaw10_BatchWrites : Tab := ⟨[], [], []⟩
def wp_dunnagelaw10_BatchWrites (r_0 : Int) (r_1 : Int) (r_2 : Sl) (r_3 : Int) (r_4 : Int) (r_5 : Int) (r_6 : Int) (h : Mem) (Q : Bool → Mem → Prop) : Prop :=
  New
    (Obj.cells
      #[Value.int IntKind.i64 r_0, Value.int IntKind.u64 r_1, Value.slice r_2.a r_2.len r_2.cap, Value.int IntKind.u64 r_3, Value.int IntKind.i64 r_4, Value.int IntKind.i64 r_5,
        Value.int IntKind.i64 r_6]
      38)
    h fun (k1 : Nat) (h2 : Mem) =>
    Ld PG ty_api_Record (Addr.mk k1 0 none)
      (Kd.one (Cmp.agg [Leaf.int IntKind.i64, Leaf.int IntKind.u64, Leaf.sl, Leaf.int IntKind.u64, Leaf.int IntKind.i64, Leaf.int IntKind.i64, Leaf.int IntKind.i64])) h2
      fun (n3 n4 : Int) (s5 : Sl) (n6 n7 n8 n9 : Int) =>
      New
        (Obj.cells
          #[Value.int IntKind.i64 0, Value.int IntKind.u64 0, Value.slice none 0 0, Value.int IntKind.u64 0, Value.int IntKind.i64 0, Value.int IntKind.i64 0,
            Value.int IntKind.i64 0]
          38)
        h2 fun (k10 : Nat) (h11 : Mem) =>
        St PG ty_api_Record (Addr.mk k10 0 none)
          (Value.agg
            #[Value.int IntKind.i64 n3, Value.int IntKind.u64 n4, Value.slice s5.a s5.len s5.cap, Value.int IntKind.u64 n6, Value.int IntKind.i64 n7, Value.int IntKind.i64 n8,
              Value.int IntKind.i64 n9])
          h11 fun (h12 : Mem) =>
          Ld PG ty_sl_api_Change ((Addr.mk k1 0 none).add 2) (Kd.one (Cmp.leaf Leaf.sl)) h12 fun (s13 : Sl) =>
            CallF PG fn_dunnagehelp_Own_api_Change_ 
              [Value.slice s13.a s13.len s13.cap,
                Value.agg #[Value.string (ByteArray.mk #[55, 49]), Value.int IntKind.u64 0, Value.int IntKind.i64 0, Value.int IntKind.i64 0, Value.bool false]]
              (Kd.one (Cmp.leaf Leaf.sl)) h12 fun (s14 : Sl) (h15 : Mem) =>
              St PG ty_sl_api_Change ((Addr.mk k10 0 none).add 2) (Value.slice s14.a s14.len s14.cap) h15 fun (h16 : Mem) =>
                Ld PG ty_api_Record (Addr.mk k10 0 none)
                  (Kd.one (Cmp.agg [Leaf.int IntKind.i64, Leaf.int IntKind.u64, Leaf.sl, Leaf.int IntKind.u64, Leaf.int IntKind.i64, Leaf.int IntKind.i64, Leaf.int IntKind.i64])) h16
                  fun (n17 n18 : Int) (s19 : Sl) (n20 n21 n22 n23 : Int) =>
                  CallF PG fn_batch_Write 
                    [Value.agg
                        #[Value.int IntKind.i64 n17, Value.int IntKind.u64 n18, Value.slice s19.a s19.len s19.cap, Value.int IntKind.u64 n20, Value.int IntKind.i64 n21,
                          Value.int IntKind.i64 n22, Value.int IntKind.i64 n23]]
                    (Kd.tup [Cmp.leaf Leaf.sl, Cmp.leaf (Leaf.int IntKind.i64)]) h16 fun (s24 : Sl) (n25 : Int) (h26 : Mem) =>
                    Ld PG ty_api_Record (Addr.mk k1 0 none)
                      (Kd.one (Cmp.agg [Leaf.int IntKind.i64, Leaf.int IntKind.u64, Leaf.sl, Leaf.int IntKind.u64, Leaf.int IntKind.i64, Leaf.int IntKind.i64, Leaf.int IntKind.i64]))
                      h26 fun (n27 n28 : Int) (s29 : Sl) (n30 n31 n32 n33 : Int) =>
                      CallF PG fn_dunnageref10_Write 
                        [Value.agg
                            #[Value.int IntKind.i64 n27, Value.int IntKind.u64 n28, Value.slice s29.a s29.len s29.cap, Value.int IntKind.u64 n30, Value.int IntKind.i64 n31,
                              Value.int IntKind.i64 n32, Value.int IntKind.i64 n33]]
                        (Kd.tup [Cmp.leaf Leaf.sl, Cmp.leaf (Leaf.int IntKind.i64)]) h26 fun (s34 : Sl) (n35 : Int) (h36 : Mem) =>
                        CallF PG fn_dunnagelaw10_awake [] (Kd.one (Cmp.leaf Leaf.bool)) h36 fun (b37 : Bool) (h38 : Mem) =>
                          Br b37
                            (Ld PG ty_api_Record (Addr.mk k10 0 none)
                              (Kd.one
                                (Cmp.agg
                                  [Leaf.int IntKind.i64, Leaf.int IntKind.u64, Leaf.sl, Leaf.int IntKind.u64, Leaf.int IntKind.i64, Leaf.int IntKind.i64, Leaf.int IntKind.i64]))
                              h38 fun (n39 n40 : Int) (s41 : Sl) (n42 n43 n44 n45 : Int) =>
                              Ld PG ty_api_Record (Addr.mk k1 0 none)
                                (Kd.one
                                  (Cmp.agg
                                    [Leaf.int IntKind.i64, Leaf.int IntKind.u64, Leaf.sl, Leaf.int IntKind.u64, Leaf.int IntKind.i64, Leaf.int IntKind.i64, Leaf.int IntKind.i64]))
                                h38 fun (n46 n47 : Int) (s48 : Sl) (n49 n50 n51 n52 : Int) =>
                                CallF PG fn_batch_May 
                                  [Value.agg
                                      #[Value.int IntKind.i64 n39, Value.int IntKind.u64 n40, Value.slice s41.a s41.len s41.cap, Value.int IntKind.u64 n42, Value.int IntKind.i64 n43,
                                        Value.int IntKind.i64 n44, Value.int IntKind.i64 n45]]
                                  (Kd.one (Cmp.leaf Leaf.bool)) h38 fun (b53 : Bool) (h54 : Mem) =>
                                  (Ld PG ty_api_Record (Addr.mk k1 0 none)
                                      (Kd.one
                                        (Cmp.agg
                                          [Leaf.int IntKind.i64, Leaf.int IntKind.u64, Leaf.sl, Leaf.int IntKind.u64, Leaf.int IntKind.i64, Leaf.int IntKind.i64,
                                            Leaf.int IntKind.i64]))
                                      h54 fun (n55 n56 : Int) (s57 : Sl) (n58 n59 n60 n61 : Int) =>
                                      Value.agg
                                          #[Value.int IntKind.i64 n55, Value.int IntKind.u64 n56, Value.slice s57.a s57.len s57.cap, Value.int IntKind.u64 n58,
                                            Value.int IntKind.i64 n59, Value.int IntKind.i64 n60, Value.int IntKind.i64 n61] =
                                        Value.agg
                                          #[Value.int IntKind.i64 n46, Value.int IntKind.u64 n47, Value.slice s48.a s48.len s48.cap, Value.int IntKind.u64 n49,
                                            Value.int IntKind.i64 n50, Value.int IntKind.i64 n51, Value.int IntKind.i64 n52]) ∧
                                    CallF PG fn_dunnageref10_May 
                                      [Value.agg
                                          #[Value.int IntKind.i64 n46, Value.int IntKind.u64 n47, Value.slice s48.a s48.len s48.cap, Value.int IntKind.u64 n49,
                                            Value.int IntKind.i64 n50, Value.int IntKind.i64 n51, Value.int IntKind.i64 n52]]
                                      (Kd.one (Cmp.leaf Leaf.bool)) h54 fun (b62 : Bool) (h63 : Mem) =>
                                      Br (b53 == b62)
                                        (CallF PG fn_dunnagehelp_Bytes [Value.slice s24.a s24.len s24.cap, Value.slice s34.a s34.len s34.cap] (Kd.one (Cmp.leaf Leaf.bool)) h63
                                          fun (b64 : Bool) (h65 : Mem) =>
                                          Br b64
                                            (Br (n25 == n35)
                                              (Ld PG ty_sl_api_Change ((Addr.mk k10 0 none).add 2) (Kd.one (Cmp.leaf Leaf.sl)) h65 fun (s66 : Sl) =>
                                                Ld PG ty_sl_api_Change ((Addr.mk k1 0 none).add 2) (Kd.one (Cmp.leaf Leaf.sl)) h65 fun (s67 : Sl) =>
                                                  CallF PG fn_dunnagehelp_Kept_api_Change_ 
                                                    [Value.slice s66.a s66.len s66.cap, Value.slice s67.a s67.len s67.cap,
                                                      Value.agg
                                                        #[Value.string (ByteArray.mk #[55, 49]), Value.int IntKind.u64 0, Value.int IntKind.i64 0, Value.int IntKind.i64 0,
                                                          Value.bool false]]
                                                    (Kd.one (Cmp.leaf Leaf.bool)) h65 fun (b68 : Bool) (h69 : Mem) => Q b68 h69)
                                              (Q false h65))
                                            (Q false h65))
                                        (Q false h63))
                            (Q false h38)
theorem eq_dunnagelaw10_BatchWrites (r_0 : Int) (r_1 : Int) (r_2 : Sl) (r_3 : Int) (r_4 : Int) (r_5 : Int) (r_6 : Int) (h : Mem) (Q : Bool → Mem → Prop) : wp_dunnagelaw10_BatchWrites r_0 r_1 r_2 r_3 r_4 r_5 r_6 h Q = evFn PG fn_dunnagelaw10_BatchWrites tab_dunnagelaw10_BatchWrites [.agg #[.int .i64 r_0, .int .u64 r_1, .slice r_2.a r_2.len r_2.cap, .int .u64 r_3, .int .i64 r_4, .int .i64 r_5, .int .i64 r_6]] (.one (.leaf .bool)) h Q := by kernel_rfl
theorem ok_dunnagelaw10_BatchWrites : okF PG fn_dunnagelaw10_BatchWrites tab_dunnagelaw10_BatchWrites = true := by kernel_rfl
theorem call_dunnagelaw10_BatchWrites {r_0 : Int} {r_1 : Int} {r_2 : Sl} {r_3 : Int} {r_4 : Int} {r_5 : Int} {r_6 : Int} {h : Mem} {Q : Bool → Mem → Prop} (w : wp_dunnagelaw10_BatchWrites r_0 r_1 r_2 r_3 r_4 r_5 r_6 h Q) : CallF PG fn_dunnagelaw10_BatchWrites [.agg #[.int .i64 r_0, .int .u64 r_1, .slice r_2.a r_2.len r_2.cap, .int .u64 r_3, .int .i64 r_4, .int .i64 r_5, .int .i64 r_6]] (.one (.leaf .bool)) h Q := callF_of PM ok_dunnagelaw10_BatchWrites (eq_dunnagelaw10_BatchWrites r_0 r_1 r_2 r_3 r_4 r_5 r_6 h Q ▸ w)

/- 15: dunnage/dunnagelaw10.BatchReads -/
def tab_dunnagelaw10_BatchReads : Tab := ⟨[], [], []⟩
def wp_dunnagelaw10_BatchReads (b : Sl) (h : Mem) (Q : Bool → Mem → Prop) : Prop :=
  CallF PG fn_dunnagehelp_Own_byte_ [Value.slice b.a b.len b.cap, Value.int IntKind.u8 71] (Kd.one (Cmp.leaf Leaf.sl)) h fun (s1 : Sl) (h2 : Mem) =>
    CallF PG fn_batch_Read [Value.slice s1.a s1.len s1.cap]
      (Kd.tup
        [Cmp.agg [Leaf.int IntKind.i64, Leaf.int IntKind.u64, Leaf.sl, Leaf.int IntKind.u64, Leaf.int IntKind.i64, Leaf.int IntKind.i64, Leaf.int IntKind.i64],
          Cmp.leaf (Leaf.int IntKind.i64)])
      h2 fun (n3 n4 : Int) (s5 : Sl) (n6 n7 n8 n9 n10 : Int) (h11 : Mem) =>
      New
        (Obj.cells
          #[Value.int IntKind.i64 0, Value.int IntKind.u64 0, Value.slice none 0 0, Value.int IntKind.u64 0, Value.int IntKind.i64 0, Value.int IntKind.i64 0,
            Value.int IntKind.i64 0]
          38)
        h11 fun (k12 : Nat) (h13 : Mem) =>
        St PG ty_api_Record (Addr.mk k12 0 none)
          (Value.agg
            #[Value.int IntKind.i64 n3, Value.int IntKind.u64 n4, Value.slice s5.a s5.len s5.cap, Value.int IntKind.u64 n6, Value.int IntKind.i64 n7, Value.int IntKind.i64 n8,
              Value.int IntKind.i64 n9])
          h13 fun (h14 : Mem) =>
          CallF PG fn_dunnageref10_Read [Value.slice b.a b.len b.cap]
            (Kd.tup
              [Cmp.agg [Leaf.int IntKind.i64, Leaf.int IntKind.u64, Leaf.sl, Leaf.int IntKind.u64, Leaf.int IntKind.i64, Leaf.int IntKind.i64, Leaf.int IntKind.i64],
                Cmp.leaf (Leaf.int IntKind.i64)])
            h14 fun (n15 n16 : Int) (s17 : Sl) (n18 n19 n20 n21 n22 : Int) (h23 : Mem) =>
            New
              (Obj.cells
                #[Value.int IntKind.i64 0, Value.int IntKind.u64 0, Value.slice none 0 0, Value.int IntKind.u64 0, Value.int IntKind.i64 0, Value.int IntKind.i64 0,
                  Value.int IntKind.i64 0]
                38)
              h23 fun (k24 : Nat) (h25 : Mem) =>
              St PG ty_api_Record (Addr.mk k24 0 none)
                (Value.agg
                  #[Value.int IntKind.i64 n15, Value.int IntKind.u64 n16, Value.slice s17.a s17.len s17.cap, Value.int IntKind.u64 n18, Value.int IntKind.i64 n19,
                    Value.int IntKind.i64 n20, Value.int IntKind.i64 n21])
                h25 fun (h26 : Mem) =>
                CallF PG fn_dunnagelaw10_awake [] (Kd.one (Cmp.leaf Leaf.bool)) h26 fun (b27 : Bool) (h28 : Mem) =>
                  Br b27
                    (Ld PG ty_api_Record (Addr.mk k12 0 none)
                      (Kd.one (Cmp.agg [Leaf.int IntKind.i64, Leaf.int IntKind.u64, Leaf.sl, Leaf.int IntKind.u64, Leaf.int IntKind.i64, Leaf.int IntKind.i64, Leaf.int IntKind.i64]))
                      h28 fun (n29 n30 : Int) (s31 : Sl) (n32 n33 n34 n35 : Int) =>
                      Ld PG ty_api_Record (Addr.mk k24 0 none)
                        (Kd.one
                          (Cmp.agg [Leaf.int IntKind.i64, Leaf.int IntKind.u64, Leaf.sl, Leaf.int IntKind.u64, Leaf.int IntKind.i64, Leaf.int IntKind.i64, Leaf.int IntKind.i64]))
                        h28 fun (n36 n37 : Int) (s38 : Sl) (n39 n40 n41 n42 : Int) =>
                        CallF PG fn_dunnagehelp_Record 
                          [Value.agg
                              #[Value.int IntKind.i64 n29, Value.int IntKind.u64 n30, Value.slice s31.a s31.len s31.cap, Value.int IntKind.u64 n32, Value.int IntKind.i64 n33,
                                Value.int IntKind.i64 n34, Value.int IntKind.i64 n35],
                            Value.agg
                              #[Value.int IntKind.i64 n36, Value.int IntKind.u64 n37, Value.slice s38.a s38.len s38.cap, Value.int IntKind.u64 n39, Value.int IntKind.i64 n40,
                                Value.int IntKind.i64 n41, Value.int IntKind.i64 n42]]
                          (Kd.one (Cmp.leaf Leaf.bool)) h28 fun (b43 : Bool) (h44 : Mem) =>
                          Br b43
                            (Br (n10 == n22)
                              (CallF PG fn_dunnagehelp_Kept_byte_ [Value.slice s1.a s1.len s1.cap, Value.slice b.a b.len b.cap, Value.int IntKind.u8 71] (Kd.one (Cmp.leaf Leaf.bool)) h44
                                fun (b45 : Bool) (h46 : Mem) => Q b45 h46)
                              (Q false h44))
                            (Q false h44))
                    (Q false h28)
theorem eq_dunnagelaw10_BatchReads (b : Sl) (h : Mem) (Q : Bool → Mem → Prop) : wp_dunnagelaw10_BatchReads b h Q = evFn PG fn_dunnagelaw10_BatchReads tab_dunnagelaw10_BatchReads [.slice b.a b.len b.cap] (.one (.leaf .bool)) h Q := by kernel_rfl
theorem ok_dunnagelaw10_BatchReads : okF PG fn_dunnagelaw10_BatchReads tab_dunnagelaw10_BatchReads = true := by kernel_rfl
theorem call_dunnagelaw10_BatchReads {b : Sl} {h : Mem} {Q : Bool → Mem → Prop} (w : wp_dunnagelaw10_BatchReads b h Q) : CallF PG fn_dunnagelaw10_BatchReads [.slice b.a b.len b.cap] (.one (.leaf .bool)) h Q := callF_of PM ok_dunnagelaw10_BatchReads (eq_dunnagelaw10_BatchReads b h Q ▸ w)

/- 16: dunnage/dunnagelaw10.BatchBack -/
def tab_dunnagelaw10_BatchBack : Tab := ⟨[], [], [(10, (chainT [(0, false), (1, false), (2, false)] (.join ⟨[(76, .leaf .bool)], [74, 75]⟩ (chainT [(3, false), (4, false), (5, false)] .nil) .nil))), (6, (chainT [(0, false), (1, false), (2, false)] (.join ⟨[(47, .leaf .bool)], [43, 44, 45, 46]⟩ (chainT [(3, false), (4, false), (5, false), (6, false), (7, false)] .nil) .nil))), (2, (chainT [(0, false), (1, false), (2, false)] (.join ⟨[(32, .leaf .bool)], [27, 28, 29, 30, 31]⟩ (chainT [(3, false), (4, false), (5, false), (6, false), (7, false), (8, false)] .nil) .nil)))]⟩
def wp_dunnagelaw10_BatchBack (r_0 : Int) (r_1 : Int) (r_2 : Sl) (r_3 : Int) (r_4 : Int) (r_5 : Int) (r_6 : Int) (b : Sl) (cut : Int) (h : Mem) (Q : Bool → Mem → Prop) : Prop :=
  New
    (Obj.cells
      #[Value.int IntKind.i64 r_0, Value.int IntKind.u64 r_1, Value.slice r_2.a r_2.len r_2.cap, Value.int IntKind.u64 r_3, Value.int IntKind.i64 r_4, Value.int IntKind.i64 r_5,
        Value.int IntKind.i64 r_6]
      38)
    h fun (k1 : Nat) (h2 : Mem) =>
    Ld PG ty_api_Record (Addr.mk k1 0 none)
      (Kd.one (Cmp.agg [Leaf.int IntKind.i64, Leaf.int IntKind.u64, Leaf.sl, Leaf.int IntKind.u64, Leaf.int IntKind.i64, Leaf.int IntKind.i64, Leaf.int IntKind.i64])) h2
      fun (n3 n4 : Int) (s5 : Sl) (n6 n7 n8 n9 : Int) =>
      CallF PG fn_batch_Write 
        [Value.agg
            #[Value.int IntKind.i64 n3, Value.int IntKind.u64 n4, Value.slice s5.a s5.len s5.cap, Value.int IntKind.u64 n6, Value.int IntKind.i64 n7, Value.int IntKind.i64 n8,
              Value.int IntKind.i64 n9]]
        (Kd.tup [Cmp.leaf Leaf.sl, Cmp.leaf (Leaf.int IntKind.i64)]) h2 fun (s10 : Sl) (n11 : Int) (h12 : Mem) =>
        CallF PG fn_dunnagelaw10_awake [] (Kd.one (Cmp.leaf Leaf.bool)) h12 fun (b13 : Bool) (h14 : Mem) =>
          ∃ (I15 : Bool → Mem → Prop),
            (∀ (j16 : Fr) (b17 : Bool) (h18 : Mem),
                I15 b17 h18 →
                  Br b17 (Q false h18)
                    (Br (n11 == 0)
                      (CallF PG fn_batch_Read [Value.slice s10.a s10.len s10.cap]
                        (Kd.tup
                          [Cmp.agg [Leaf.int IntKind.i64, Leaf.int IntKind.u64, Leaf.sl, Leaf.int IntKind.u64, Leaf.int IntKind.i64, Leaf.int IntKind.i64, Leaf.int IntKind.i64],
                            Cmp.leaf (Leaf.int IntKind.i64)])
                        h18 fun (n19 n20 : Int) (s21 : Sl) (n22 n23 n24 n25 n26 : Int) (h27 : Mem) =>
                        New
                          (Obj.cells
                            #[Value.int IntKind.i64 0, Value.int IntKind.u64 0, Value.slice none 0 0, Value.int IntKind.u64 0, Value.int IntKind.i64 0, Value.int IntKind.i64 0,
                              Value.int IntKind.i64 0]
                            38)
                          h27 fun (k28 : Nat) (h29 : Mem) =>
                          St PG ty_api_Record (Addr.mk k28 0 none)
                            (Value.agg
                              #[Value.int IntKind.i64 n19, Value.int IntKind.u64 n20, Value.slice s21.a s21.len s21.cap, Value.int IntKind.u64 n22, Value.int IntKind.i64 n23,
                                Value.int IntKind.i64 n24, Value.int IntKind.i64 n25])
                            h29 fun (h30 : Mem) =>
                            ∃ (I31 : Bool → Mem → Prop),
                              (∀ (j32 : Fr) (b33 : Bool) (h34 : Mem),
                                  I31 b33 h34 →
                                    Br b33 (Q false h34)
                                      (Chk (!decide (IntKind.u64.wrap (↑s10.len : Int) = 0))
                                        (Cut 1 s10.a s10.len s10.cap none (some (IntKind.i64.wrap ((IntKind.u64.wrap cut).tmod (IntKind.u64.wrap (↑s10.len : Int))))) none
                                          fun (s35 : Sl) =>
                                          CallF PG fn_batch_Read [Value.slice s35.a s35.len s35.cap]
                                            (Kd.tup
                                              [Cmp.agg
                                                  [Leaf.int IntKind.i64, Leaf.int IntKind.u64, Leaf.sl, Leaf.int IntKind.u64, Leaf.int IntKind.i64, Leaf.int IntKind.i64,
                                                    Leaf.int IntKind.i64],
                                                Cmp.leaf (Leaf.int IntKind.i64)])
                                            h34 fun (n36 n37 : Int) (s38 : Sl) (n39 n40 n41 n42 n43 : Int) (h44 : Mem) =>
                                            New
                                              (Obj.cells
                                                #[Value.int IntKind.i64 0, Value.int IntKind.u64 0, Value.slice none 0 0, Value.int IntKind.u64 0, Value.int IntKind.i64 0,
                                                  Value.int IntKind.i64 0, Value.int IntKind.i64 0]
                                                38)
                                              h44 fun (k45 : Nat) (h46 : Mem) =>
                                              St PG ty_api_Record (Addr.mk k45 0 none)
                                                (Value.agg
                                                  #[Value.int IntKind.i64 n36, Value.int IntKind.u64 n37, Value.slice s38.a s38.len s38.cap, Value.int IntKind.u64 n39,
                                                    Value.int IntKind.i64 n40, Value.int IntKind.i64 n41, Value.int IntKind.i64 n42])
                                                h46 fun (h47 : Mem) =>
                                                PrimT PG (Builtin.append_ #[ty_sl_uint8, ty_sl_uint8] ty_sl_uint8 #[Value.slice none 0 0, Value.slice s10.a s10.len s10.cap]) (Kd.one (Cmp.leaf Leaf.sl))
                                                  h47 fun (s48 : Sl) (h49 : Mem) =>
                                                  New (Obj.cells #[Value.int IntKind.u8 (IntKind.u8.wrap cut)] ty_uint8) h49 fun (k50 : Nat) (h51 : Mem) =>
                                                    PrimT PG (Builtin.append_ #[ty_sl_uint8, ty_sl_uint8] ty_sl_uint8 #[Value.slice s48.a s48.len s48.cap, Value.slice (some (Addr.mk k50 0 none)) 1 1])
                                                      (Kd.one (Cmp.leaf Leaf.sl)) h51 fun (s52 : Sl) (h53 : Mem) =>
                                                      CallF PG fn_batch_Read [Value.slice s52.a s52.len s52.cap]
                                                        (Kd.tup
                                                          [Cmp.agg
                                                              [Leaf.int IntKind.i64, Leaf.int IntKind.u64, Leaf.sl, Leaf.int IntKind.u64, Leaf.int IntKind.i64, Leaf.int IntKind.i64,
                                                                Leaf.int IntKind.i64],
                                                            Cmp.leaf (Leaf.int IntKind.i64)])
                                                        h53 fun (n54 n55 : Int) (s56 : Sl) (n57 n58 n59 n60 n61 : Int) (h62 : Mem) =>
                                                        New
                                                          (Obj.cells
                                                            #[Value.int IntKind.i64 0, Value.int IntKind.u64 0, Value.slice none 0 0, Value.int IntKind.u64 0,
                                                              Value.int IntKind.i64 0, Value.int IntKind.i64 0, Value.int IntKind.i64 0]
                                                            38)
                                                          h62 fun (k63 : Nat) (h64 : Mem) =>
                                                          St PG ty_api_Record (Addr.mk k63 0 none)
                                                            (Value.agg
                                                              #[Value.int IntKind.i64 n54, Value.int IntKind.u64 n55, Value.slice s56.a s56.len s56.cap, Value.int IntKind.u64 n57,
                                                                Value.int IntKind.i64 n58, Value.int IntKind.i64 n59, Value.int IntKind.i64 n60])
                                                            h64 fun (h65 : Mem) =>
                                                            ∃ (I66 : Bool → Mem → Prop),
                                                              (∀ (j67 : Fr) (b68 : Bool) (h69 : Mem),
                                                                  I66 b68 h69 →
                                                                    Br b68 (Q false h69)
                                                                      (CallF PG fn_batch_Read [Value.slice b.a b.len b.cap]
                                                                        (Kd.tup
                                                                          [Cmp.agg
                                                                              [Leaf.int IntKind.i64, Leaf.int IntKind.u64, Leaf.sl, Leaf.int IntKind.u64, Leaf.int IntKind.i64,
                                                                                Leaf.int IntKind.i64, Leaf.int IntKind.i64],
                                                                            Cmp.leaf (Leaf.int IntKind.i64)])
                                                                        h69 fun (n70 n71 : Int) (s72 : Sl) (n73 n74 n75 n76 n77 : Int) (h78 : Mem) =>
                                                                        New
                                                                          (Obj.cells
                                                                            #[Value.int IntKind.i64 0, Value.int IntKind.u64 0, Value.slice none 0 0, Value.int IntKind.u64 0,
                                                                              Value.int IntKind.i64 0, Value.int IntKind.i64 0, Value.int IntKind.i64 0]
                                                                            38)
                                                                          h78 fun (k79 : Nat) (h80 : Mem) =>
                                                                          St PG ty_api_Record (Addr.mk k79 0 none)
                                                                            (Value.agg
                                                                              #[Value.int IntKind.i64 n70, Value.int IntKind.u64 n71, Value.slice s72.a s72.len s72.cap,
                                                                                Value.int IntKind.u64 n73, Value.int IntKind.i64 n74, Value.int IntKind.i64 n75,
                                                                                Value.int IntKind.i64 n76])
                                                                            h80 fun (h81 : Mem) =>
                                                                            Br (n77 != 0) (Q true h81)
                                                                              (Ld PG ty_api_Record (Addr.mk k79 0 none)
                                                                                (Kd.one
                                                                                  (Cmp.agg
                                                                                    [Leaf.int IntKind.i64, Leaf.int IntKind.u64, Leaf.sl, Leaf.int IntKind.u64, Leaf.int IntKind.i64,
                                                                                      Leaf.int IntKind.i64, Leaf.int IntKind.i64]))
                                                                                h81 fun (n82 n83 : Int) (s84 : Sl) (n85 n86 n87 n88 : Int) =>
                                                                                CallF PG fn_batch_Write 
                                                                                  [Value.agg
                                                                                      #[Value.int IntKind.i64 n82, Value.int IntKind.u64 n83, Value.slice s84.a s84.len s84.cap,
                                                                                        Value.int IntKind.u64 n85, Value.int IntKind.i64 n86, Value.int IntKind.i64 n87,
                                                                                        Value.int IntKind.i64 n88]]
                                                                                  (Kd.tup [Cmp.leaf Leaf.sl, Cmp.leaf (Leaf.int IntKind.i64)]) h81
                                                                                  fun (s89 : Sl) (n90 : Int) (h91 : Mem) =>
                                                                                  Br (n90 == 0)
                                                                                    (CallF PG fn_dunnagehelp_Bytes [Value.slice s89.a s89.len s89.cap, Value.slice b.a b.len b.cap]
                                                                                      (Kd.one (Cmp.leaf Leaf.bool)) h91 fun (b92 : Bool) (h93 : Mem) => Q b92 h93)
                                                                                    (Q false h91)))) ∧
                                                                Br (n43 == 0) (I66 true h65) (I66 (n61 != 11) h65)))) ∧
                                Br (n26 != 0) (I31 true h30)
                                  (Ld PG ty_api_Record (Addr.mk k28 0 none)
                                    (Kd.one
                                      (Cmp.agg
                                        [Leaf.int IntKind.i64, Leaf.int IntKind.u64, Leaf.sl, Leaf.int IntKind.u64, Leaf.int IntKind.i64, Leaf.int IntKind.i64,
                                          Leaf.int IntKind.i64]))
                                    h30 fun (n94 n95 : Int) (s96 : Sl) (n97 n98 n99 n100 : Int) =>
                                    Ld PG ty_api_Record (Addr.mk k1 0 none)
                                      (Kd.one
                                        (Cmp.agg
                                          [Leaf.int IntKind.i64, Leaf.int IntKind.u64, Leaf.sl, Leaf.int IntKind.u64, Leaf.int IntKind.i64, Leaf.int IntKind.i64,
                                            Leaf.int IntKind.i64]))
                                      h30 fun (n101 n102 : Int) (s103 : Sl) (n104 n105 n106 n107 : Int) =>
                                      CallF PG fn_dunnagehelp_Record 
                                        [Value.agg
                                            #[Value.int IntKind.i64 n94, Value.int IntKind.u64 n95, Value.slice s96.a s96.len s96.cap, Value.int IntKind.u64 n97,
                                              Value.int IntKind.i64 n98, Value.int IntKind.i64 n99, Value.int IntKind.i64 n100],
                                          Value.agg
                                            #[Value.int IntKind.i64 n101, Value.int IntKind.u64 n102, Value.slice s103.a s103.len s103.cap, Value.int IntKind.u64 n104,
                                              Value.int IntKind.i64 n105, Value.int IntKind.i64 n106, Value.int IntKind.i64 n107]]
                                        (Kd.one (Cmp.leaf Leaf.bool)) h30 fun (b108 : Bool) (h109 : Mem) => I31 (!b108) h109))
                      (CallF PG fn_batch_Read [Value.slice b.a b.len b.cap]
                        (Kd.tup
                          [Cmp.agg [Leaf.int IntKind.i64, Leaf.int IntKind.u64, Leaf.sl, Leaf.int IntKind.u64, Leaf.int IntKind.i64, Leaf.int IntKind.i64, Leaf.int IntKind.i64],
                            Cmp.leaf (Leaf.int IntKind.i64)])
                        h18 fun (n110 n111 : Int) (s112 : Sl) (n113 n114 n115 n116 n117 : Int) (h118 : Mem) =>
                        New
                          (Obj.cells
                            #[Value.int IntKind.i64 0, Value.int IntKind.u64 0, Value.slice none 0 0, Value.int IntKind.u64 0, Value.int IntKind.i64 0, Value.int IntKind.i64 0,
                              Value.int IntKind.i64 0]
                            38)
                          h118 fun (k119 : Nat) (h120 : Mem) =>
                          St PG ty_api_Record (Addr.mk k119 0 none)
                            (Value.agg
                              #[Value.int IntKind.i64 n110, Value.int IntKind.u64 n111, Value.slice s112.a s112.len s112.cap, Value.int IntKind.u64 n113, Value.int IntKind.i64 n114,
                                Value.int IntKind.i64 n115, Value.int IntKind.i64 n116])
                            h120 fun (h121 : Mem) =>
                            Br (n117 != 0) (Q true h121)
                              (Ld PG ty_api_Record (Addr.mk k119 0 none)
                                (Kd.one
                                  (Cmp.agg
                                    [Leaf.int IntKind.i64, Leaf.int IntKind.u64, Leaf.sl, Leaf.int IntKind.u64, Leaf.int IntKind.i64, Leaf.int IntKind.i64, Leaf.int IntKind.i64]))
                                h121 fun (n122 n123 : Int) (s124 : Sl) (n125 n126 n127 n128 : Int) =>
                                CallF PG fn_batch_Write 
                                  [Value.agg
                                      #[Value.int IntKind.i64 n122, Value.int IntKind.u64 n123, Value.slice s124.a s124.len s124.cap, Value.int IntKind.u64 n125,
                                        Value.int IntKind.i64 n126, Value.int IntKind.i64 n127, Value.int IntKind.i64 n128]]
                                  (Kd.tup [Cmp.leaf Leaf.sl, Cmp.leaf (Leaf.int IntKind.i64)]) h121 fun (s129 : Sl) (n130 : Int) (h131 : Mem) =>
                                  Br (n130 == 0)
                                    (CallF PG fn_dunnagehelp_Bytes [Value.slice s129.a s129.len s129.cap, Value.slice b.a b.len b.cap] (Kd.one (Cmp.leaf Leaf.bool)) h131
                                      fun (b132 : Bool) (h133 : Mem) => Q b132 h133)
                                    (Q false h131))))) ∧
              Br (!b13) (I15 true h14)
                (Ld PG ty_api_Record (Addr.mk k1 0 none)
                  (Kd.one (Cmp.agg [Leaf.int IntKind.i64, Leaf.int IntKind.u64, Leaf.sl, Leaf.int IntKind.u64, Leaf.int IntKind.i64, Leaf.int IntKind.i64, Leaf.int IntKind.i64])) h14
                  fun (n134 n135 : Int) (s136 : Sl) (n137 n138 n139 n140 : Int) =>
                  CallF PG fn_batch_May 
                    [Value.agg
                        #[Value.int IntKind.i64 n134, Value.int IntKind.u64 n135, Value.slice s136.a s136.len s136.cap, Value.int IntKind.u64 n137, Value.int IntKind.i64 n138,
                          Value.int IntKind.i64 n139, Value.int IntKind.i64 n140]]
                    (Kd.one (Cmp.leaf Leaf.bool)) h14 fun (b141 : Bool) (h142 : Mem) => I15 (!b141 == (n11 == 0)) h142)
theorem eq_dunnagelaw10_BatchBack (r_0 : Int) (r_1 : Int) (r_2 : Sl) (r_3 : Int) (r_4 : Int) (r_5 : Int) (r_6 : Int) (b : Sl) (cut : Int) (h : Mem) (Q : Bool → Mem → Prop) : wp_dunnagelaw10_BatchBack r_0 r_1 r_2 r_3 r_4 r_5 r_6 b cut h Q = evFn PG fn_dunnagelaw10_BatchBack tab_dunnagelaw10_BatchBack [.agg #[.int .i64 r_0, .int .u64 r_1, .slice r_2.a r_2.len r_2.cap, .int .u64 r_3, .int .i64 r_4, .int .i64 r_5, .int .i64 r_6], .slice b.a b.len b.cap, .int .i64 cut] (.one (.leaf .bool)) h Q := by kernel_rfl
theorem ok_dunnagelaw10_BatchBack : okF PG fn_dunnagelaw10_BatchBack tab_dunnagelaw10_BatchBack = true := by kernel_rfl
theorem call_dunnagelaw10_BatchBack {r_0 : Int} {r_1 : Int} {r_2 : Sl} {r_3 : Int} {r_4 : Int} {r_5 : Int} {r_6 : Int} {b : Sl} {cut : Int} {h : Mem} {Q : Bool → Mem → Prop} (w : wp_dunnagelaw10_BatchBack r_0 r_1 r_2 r_3 r_4 r_5 r_6 b cut h Q) : CallF PG fn_dunnagelaw10_BatchBack [.agg #[.int .i64 r_0, .int .u64 r_1, .slice r_2.a r_2.len r_2.cap, .int .u64 r_3, .int .i64 r_4, .int .i64 r_5, .int .i64 r_6], .slice b.a b.len b.cap, .int .i64 cut] (.one (.leaf .bool)) h Q := callF_of PM ok_dunnagelaw10_BatchBack (eq_dunnagelaw10_BatchBack r_0 r_1 r_2 r_3 r_4 r_5 r_6 b cut h Q ▸ w)

/- 21: dunnage/dunnagelaw10.BatchChecks; loop 6: [i] -/
def tab_dunnagelaw10_BatchChecks : Tab := ⟨[(6, ⟨[(5, .leaf (.int .i64))], [33, 34, 35, 36, 37, 38, 39, 40, 41, 42, 43, 44]⟩)], [], [(3, (chainT [(0, false), (1, false), (2, false)] (.join ⟨[(18, .leaf .bool)], [13, 14, 15, 16, 17]⟩ (chainT [(3, false), (4, false), (5, false), (6, false), (7, false), (8, false)] .nil) (chainT [(9, false), (10, false), (11, false), (12, false), (13, false), (14, false), (15, false), (16, false), (17, false), (18, false), (19, false), (20, false), (21, false), (22, false)] .nil))))]⟩
def wp_dunnagelaw10_BatchChecks (ops : Sl) (h : Mem) (Q : Bool → Mem → Prop) : Prop :=
  CallF PG fn_dunnagehelp_CopyOps [Value.slice ops.a ops.len ops.cap] (Kd.one (Cmp.leaf Leaf.sl)) h fun (s1 : Sl) (h2 : Mem) =>
    CallF PG fn_batch_Last [Value.slice s1.a s1.len s1.cap] (Kd.one (Cmp.leaf Leaf.sl)) h2 fun (s3 : Sl) (h4 : Mem) =>
      CallF PG fn_dunnagelaw10_awake [] (Kd.one (Cmp.leaf Leaf.bool)) h4 fun (b5 : Bool) (h6 : Mem) =>
        ∃ (I7 : Bool → Mem → Prop),
          (∀ (j8 : Fr) (b9 : Bool) (h10 : Mem),
              I7 b9 h10 →
                Br b9 (Q false h10)
                  (CallF PG fn_batch_Size [Value.slice s1.a s1.len s1.cap] (Kd.one (Cmp.leaf (Leaf.int IntKind.i64))) h10 fun (n11 : Int) (h12 : Mem) =>
                    CallF PG fn_dunnageref10_Size [Value.slice ops.a ops.len ops.cap] (Kd.one (Cmp.leaf (Leaf.int IntKind.i64))) h12 fun (n13 : Int) (h14 : Mem) =>
                      Br (n11 != n13) (Q false h14)
                        (CallF PG fn_dunnageref10_Last [Value.slice ops.a ops.len ops.cap] (Kd.one (Cmp.leaf Leaf.sl)) h14 fun (s15 : Sl) (h16 : Mem) =>
                          CallF PG fn_dunnagehelp_Ops [Value.slice s3.a s3.len s3.cap, Value.slice s15.a s15.len s15.cap] (Kd.one (Cmp.leaf Leaf.bool)) h16 fun (b17 : Bool) (h18 : Mem) =>
                            Br (!b17) (Q false h18)
                              (∃ (I19 : Int → Mem → Prop),
                                ∃ (I20 : Int → Mem → Nat),
                                  I19 0 h18 ∧
                                    ∀ (j21 : Fr) (n22 : Int) (h23 : Mem),
                                      I19 n22 h23 →
                                        Br (decide (n22 < (↑s3.len : Int)))
                                          (Idx s3.a s3.len n22 fun (p24 : Addr) =>
                                            Ld PG ty_sl_uint8 ((p24.add (n22.toNat * 3)).add 1) (Kd.one (Cmp.leaf Leaf.sl)) h23 fun (s25 : Sl) =>
                                              CallF PG fn_dunnagehelp_Spoil [Value.slice s25.a s25.len s25.cap] (Kd.tup []) h23 fun (h26 : Mem) =>
                                                I19 (IntKind.i64.wrap (n22 + 1)) h26 ∧ I20 (IntKind.i64.wrap (n22 + 1)) h26 < I20 n22 h23)
                                          (CallF PG fn_dunnagehelp_Ops [Value.slice s1.a s1.len s1.cap, Value.slice ops.a ops.len ops.cap] (Kd.one (Cmp.leaf Leaf.bool)) h23
                                            fun (b27 : Bool) (h28 : Mem) => Q b27 h28))))) ∧
            Br (!b5) (I7 true h6)
              (CallF PG fn_batch_Check [Value.slice s1.a s1.len s1.cap] (Kd.one (Cmp.leaf (Leaf.int IntKind.i64))) h6 fun (n29 : Int) (h30 : Mem) =>
                CallF PG fn_dunnageref10_Check [Value.slice ops.a ops.len ops.cap] (Kd.one (Cmp.leaf (Leaf.int IntKind.i64))) h30 fun (n31 : Int) (h32 : Mem) => I7 (n29 != n31) h32)
theorem eq_dunnagelaw10_BatchChecks (ops : Sl) (h : Mem) (Q : Bool → Mem → Prop) : wp_dunnagelaw10_BatchChecks ops h Q = evFn PG fn_dunnagelaw10_BatchChecks tab_dunnagelaw10_BatchChecks [.slice ops.a ops.len ops.cap] (.one (.leaf .bool)) h Q := by kernel_rfl
theorem ok_dunnagelaw10_BatchChecks : okF PG fn_dunnagelaw10_BatchChecks tab_dunnagelaw10_BatchChecks = true := by kernel_rfl
theorem call_dunnagelaw10_BatchChecks {ops : Sl} {h : Mem} {Q : Bool → Mem → Prop} (w : wp_dunnagelaw10_BatchChecks ops h Q) : CallF PG fn_dunnagelaw10_BatchChecks [.slice ops.a ops.len ops.cap] (.one (.leaf .bool)) h Q := callF_of PM ok_dunnagelaw10_BatchChecks (eq_dunnagelaw10_BatchChecks ops h Q ▸ w)

/- 22: dunnage/dunnagelaw10.BatchLast; loop 5: [i]; loop 9: [at, k] -/
def tab_dunnagelaw10_BatchLast : Tab := ⟨[(5, ⟨[(6, .leaf (.int .i64))], [4, 7, 8, 22, 23, 24, 25, 26, 27, 28, 29, 30, 31, 32, 33, 34, 35, 36, 37, 38, 39, 40, 41, 42, 43, 44, 45, 46, 47, 48, 49, 50, 51, 52, 53, 54, 55, 56, 57, 58, 59, 60, 61, 62, 63, 64, 65, 66, 67, 68, 69, 70, 71, 72, 73, 74, 75, 76, 77]⟩), (9, ⟨[(7, .leaf (.int .i64)), (8, .leaf (.int .i64))], [28, 29, 30, 31, 32, 33, 34, 35, 36, 37, 38, 39, 40, 41, 42, 43, 44, 45]⟩)], [], [(2, (chainT [(0, false), (1, false), (2, false)] (.join ⟨[(21, .leaf .bool)], [16, 17, 18, 19, 20]⟩ (chainT [(3, false), (4, false), (5, false), (6, false), (7, false), (8, false)] .nil) .nil)))]⟩
def wp_dunnagelaw10_BatchLast (a : Sl) (b : Sl) (h : Mem) (Q : Bool → Mem → Prop) : Prop :=
  CallF PG fn_batch_Last [Value.slice a.a a.len a.cap] (Kd.one (Cmp.leaf Leaf.sl)) h fun (s1 : Sl) (h2 : Mem) =>
    CallF PG fn_dunnagelaw10_awake [] (Kd.one (Cmp.leaf Leaf.bool)) h2 fun (b3 : Bool) (h4 : Mem) =>
      ∃ (I5 : Bool → Mem → Prop),
        (∀ (j6 : Fr) (b7 : Bool) (h8 : Mem),
            I5 b7 h8 →
              Br b7 (Q false h8)
                (∃ (I9 : Int → Mem → Prop),
                  ∃ (I10 : Int → Mem → Nat),
                    I9 0 h8 ∧
                      ∀ (j11 : Fr) (n12 : Int) (h13 : Mem),
                        I9 n12 h13 →
                          Br (decide (n12 < (↑s1.len : Int)))
                            (∃ (I14 : Int → Int → Mem → Prop),
                              ∃ (I15 : Int → Int → Mem → Nat),
                                I14 (-1) 0 h13 ∧
                                  ∀ (j16 : Fr) (n17 n18 : Int) (h19 : Mem),
                                    I14 n17 n18 h19 →
                                      Br (decide (n18 < (↑a.len : Int)))
                                        (Idx a.a a.len n18 fun (p20 : Addr) =>
                                          Ld PG ty_string (p20.add (n18.toNat * 3)) (Kd.one (Cmp.leaf Leaf.str)) h19 fun (t21 : ByteArray) =>
                                            Idx s1.a s1.len n12 fun (p22 : Addr) =>
                                              Ld PG ty_string (p22.add (n12.toNat * 3)) (Kd.one (Cmp.leaf Leaf.str)) h19 fun (t23 : ByteArray) =>
                                                Br (sEq t21 t23) (I14 n18 (IntKind.i64.wrap (n18 + 1)) h19 ∧ I15 n18 (IntKind.i64.wrap (n18 + 1)) h19 < I15 n17 n18 h19)
                                                  (I14 n17 (IntKind.i64.wrap (n18 + 1)) h19 ∧ I15 n17 (IntKind.i64.wrap (n18 + 1)) h19 < I15 n17 n18 h19))
                                        (Br (decide (n17 < 0)) (Q false h19)
                                          (Idx a.a a.len n17 fun (p24 : Addr) =>
                                            Ld PG ty_api_Op (p24.add (n17.toNat * 3)) (Kd.one (Cmp.agg [Leaf.str, Leaf.sl, Leaf.bool])) h19
                                              fun (t25 : ByteArray) (s26 : Sl) (b27 : Bool) =>
                                              Idx s1.a s1.len n12 fun (p28 : Addr) =>
                                                Ld PG ty_api_Op (p28.add (n12.toNat * 3)) (Kd.one (Cmp.agg [Leaf.str, Leaf.sl, Leaf.bool])) h19
                                                  fun (t29 : ByteArray) (s30 : Sl) (b31 : Bool) =>
                                                  CallF PG fn_dunnagehelp_Op 
                                                    [Value.agg #[Value.string t25, Value.slice s26.a s26.len s26.cap, Value.bool b27],
                                                      Value.agg #[Value.string t29, Value.slice s30.a s30.len s30.cap, Value.bool b31]]
                                                    (Kd.one (Cmp.leaf Leaf.bool)) h19 fun (b32 : Bool) (h33 : Mem) =>
                                                    Br (!b32) (Q false h33)
                                                      (Br (decide (n12 > 0))
                                                        (Idx s1.a s1.len (IntKind.i64.wrap (n12 - 1)) fun (p34 : Addr) =>
                                                          Ld PG ty_string (p34.add ((IntKind.i64.wrap (n12 - 1)).toNat * 3)) (Kd.one (Cmp.leaf Leaf.str)) h33 fun (t35 : ByteArray) =>
                                                            Idx s1.a s1.len n12 fun (p36 : Addr) =>
                                                              Ld PG ty_string (p36.add (n12.toNat * 3)) (Kd.one (Cmp.leaf Leaf.str)) h33 fun (t37 : ByteArray) =>
                                                                Br (!sLt t35 t37) (Q false h33)
                                                                  (I9 (IntKind.i64.wrap (n12 + 1)) h33 ∧ I10 (IntKind.i64.wrap (n12 + 1)) h33 < I10 n12 h13))
                                                        (I9 (IntKind.i64.wrap (n12 + 1)) h33 ∧ I10 (IntKind.i64.wrap (n12 + 1)) h33 < I10 n12 h13)))))
                            (CallF PG fn_dunnagehelp_CopyOps [Value.slice a.a a.len a.cap] (Kd.one (Cmp.leaf Leaf.sl)) h13 fun (s38 : Sl) (h39 : Mem) =>
                              PrimT PG (Builtin.append_ #[ty_sl_api_Op, ty_sl_api_Op] ty_sl_api_Op #[Value.slice s38.a s38.len s38.cap, Value.slice b.a b.len b.cap]) (Kd.one (Cmp.leaf Leaf.sl)) h39
                                fun (s40 : Sl) (h41 : Mem) =>
                                CallF PG fn_dunnagehelp_CopyOps [Value.slice s1.a s1.len s1.cap] (Kd.one (Cmp.leaf Leaf.sl)) h41 fun (s42 : Sl) (h43 : Mem) =>
                                  CallF PG fn_batch_Last [Value.slice b.a b.len b.cap] (Kd.one (Cmp.leaf Leaf.sl)) h43 fun (s44 : Sl) (h45 : Mem) =>
                                    PrimT PG (Builtin.append_ #[ty_sl_api_Op, ty_sl_api_Op] ty_sl_api_Op #[Value.slice s42.a s42.len s42.cap, Value.slice s44.a s44.len s44.cap]) (Kd.one (Cmp.leaf Leaf.sl))
                                      h45 fun (s46 : Sl) (h47 : Mem) =>
                                      CallF PG fn_batch_Last [Value.slice s40.a s40.len s40.cap] (Kd.one (Cmp.leaf Leaf.sl)) h47 fun (s48 : Sl) (h49 : Mem) =>
                                        CallF PG fn_batch_Last [Value.slice s46.a s46.len s46.cap] (Kd.one (Cmp.leaf Leaf.sl)) h49 fun (s50 : Sl) (h51 : Mem) =>
                                          CallF PG fn_dunnagehelp_Ops [Value.slice s48.a s48.len s48.cap, Value.slice s50.a s50.len s50.cap] (Kd.one (Cmp.leaf Leaf.bool)) h51
                                            fun (b52 : Bool) (h53 : Mem) => Q b52 h53))) ∧
          Br (!b3) (I5 true h4)
            (CallF PG fn_batch_Last [Value.slice s1.a s1.len s1.cap] (Kd.one (Cmp.leaf Leaf.sl)) h4 fun (s54 : Sl) (h55 : Mem) =>
              CallF PG fn_dunnagehelp_Ops [Value.slice s54.a s54.len s54.cap, Value.slice s1.a s1.len s1.cap] (Kd.one (Cmp.leaf Leaf.bool)) h55 fun (b56 : Bool) (h57 : Mem) => I5 (!b56) h57)
theorem eq_dunnagelaw10_BatchLast (a : Sl) (b : Sl) (h : Mem) (Q : Bool → Mem → Prop) : wp_dunnagelaw10_BatchLast a b h Q = evFn PG fn_dunnagelaw10_BatchLast tab_dunnagelaw10_BatchLast [.slice a.a a.len a.cap, .slice b.a b.len b.cap] (.one (.leaf .bool)) h Q := by kernel_rfl
theorem ok_dunnagelaw10_BatchLast : okF PG fn_dunnagelaw10_BatchLast tab_dunnagelaw10_BatchLast = true := by kernel_rfl
theorem call_dunnagelaw10_BatchLast {a : Sl} {b : Sl} {h : Mem} {Q : Bool → Mem → Prop} (w : wp_dunnagelaw10_BatchLast a b h Q) : CallF PG fn_dunnagelaw10_BatchLast [.slice a.a a.len a.cap, .slice b.a b.len b.cap] (.one (.leaf .bool)) h Q := callF_of PM ok_dunnagelaw10_BatchLast (eq_dunnagelaw10_BatchLast a b h Q ▸ w)

/- 23: dunnage/dunnagelaw10.BatchFits; loop 6: [i] -/
def tab_dunnagelaw10_BatchFits : Tab := ⟨[(6, ⟨[(9, .leaf (.int .i64))], [10, 29, 30, 31, 32, 33, 34, 35, 36, 37, 38, 39, 40, 41, 42, 43, 44, 45, 46, 47, 48, 49, 50, 51, 52, 53, 54, 55, 56, 57, 58, 59, 60, 61, 62, 63, 64, 65, 66, 67, 68, 69, 70, 71, 72, 73, 74, 75, 76, 77, 78]⟩)], [], [(1, (chainT [(0, false), (1, false), (2, false)] (.join ⟨[(19, .leaf .bool)], [16, 17, 18]⟩ (chainT [(3, false), (4, false), (5, false), (6, false)] .nil) (chainT [(7, false)] (.join ⟨[(23, .leaf .bool)], [21, 22]⟩ (chainT [(8, false), (9, false), (10, false)] .nil) .nil)))))]⟩
def wp_dunnagelaw10_BatchFits (ops : Sl) (seq : Int) (refs : Sl) (h : Mem) (Q : Bool → Mem → Prop) : Prop :=
  CallF PG fn_dunnagelaw10_awake [] (Kd.one (Cmp.leaf Leaf.bool)) h fun (b1 : Bool) (h2 : Mem) =>
    ∃ (I3 : Bool → Mem → Prop),
      (∀ (j4 : Fr) (b5 : Bool) (h6 : Mem),
          I3 b5 h6 →
            ∃ (I7 : Bool → Mem → Prop),
              (∀ (j8 : Fr) (b9 : Bool) (h10 : Mem),
                  I7 b9 h10 →
                    Br b9 (CallF PG fn_dunnagelaw10_awake [] (Kd.one (Cmp.leaf Leaf.bool)) h10 fun (b11 : Bool) (h12 : Mem) => Q b11 h12)
                      (CallF PG fn_batch_Last [Value.slice ops.a ops.len ops.cap] (Kd.one (Cmp.leaf Leaf.sl)) h10 fun (s13 : Sl) (h14 : Mem) =>
                        New
                          (Obj.cells
                            #[Value.int IntKind.i64 0, Value.int IntKind.u64 0, Value.slice none 0 0, Value.int IntKind.u64 0, Value.int IntKind.i64 0, Value.int IntKind.i64 0,
                              Value.int IntKind.i64 0]
                            38)
                          h14 fun (k15 : Nat) (h16 : Mem) =>
                          St PG ty_api_Record (Addr.mk k15 0 none)
                            (Value.agg
                              #[Value.int IntKind.i64 1, Value.int IntKind.u64 seq, Value.slice none 0 0, Value.int IntKind.u64 0, Value.int IntKind.i64 0, Value.int IntKind.i64 0,
                                Value.int IntKind.i64 0])
                            h16 fun (h17 : Mem) =>
                            ∃ (I18 : Int → Mem → Prop),
                              ∃ (I19 : Int → Mem → Nat),
                                I18 0 h17 ∧
                                  ∀ (j20 : Fr) (n21 : Int) (h22 : Mem),
                                    I18 n21 h22 →
                                      Br (decide (n21 < (↑s13.len : Int)))
                                        (Idx s13.a s13.len n21 fun (p23 : Addr) =>
                                          Ld PG ty_string (p23.add (n21.toNat * 3)) (Kd.one (Cmp.leaf Leaf.str)) h22 fun (t24 : ByteArray) =>
                                            Idx s13.a s13.len n21 fun (p25 : Addr) =>
                                              Ld PG ty_bool ((p25.add (n21.toNat * 3)).add 2) (Kd.one (Cmp.leaf Leaf.bool)) h22 fun (b26 : Bool) =>
                                                New
                                                  (Obj.cells
                                                    #[Value.string (ByteArray.mk #[]), Value.int IntKind.u64 0, Value.int IntKind.i64 0, Value.int IntKind.i64 0, Value.bool false]
                                                    43)
                                                  h22 fun (k27 : Nat) (h28 : Mem) =>
                                                  (Ld PG ty_bool ((p25.add (n21.toNat * 3)).add 2) (Kd.one (Cmp.leaf Leaf.bool)) h28 fun (b29 : Bool) =>
                                                      Value.bool b29 = Value.bool b26) ∧
                                                    (Ld PG ty_string (p23.add (n21.toNat * 3)) (Kd.one (Cmp.leaf Leaf.str)) h28 fun (t30 : ByteArray) =>
                                                        Value.string t30 = Value.string t24) ∧
                                                      St PG ty_api_Change (Addr.mk k27 0 none)
                                                        (Value.agg #[Value.string t24, Value.int IntKind.u64 0, Value.int IntKind.i64 0, Value.int IntKind.i64 0, Value.bool b26]) h28
                                                        fun (h31 : Mem) =>
                                                        Ld PG ty_bool ((Addr.mk k27 0 none).add 4) (Kd.one (Cmp.leaf Leaf.bool)) h31 fun (b32 : Bool) =>
                                                          Br (!b32)
                                                            (Idx s13.a s13.len n21 fun (p33 : Addr) =>
                                                              Ld PG ty_sl_uint8 ((p33.add (n21.toNat * 3)).add 1) (Kd.one (Cmp.leaf Leaf.sl)) h31 fun (s34 : Sl) =>
                                                                St PG ty_api_Ref ((Addr.mk k27 0 none).add 1)
                                                                  (Value.agg
                                                                    #[Value.int IntKind.u64 18446744073709551615, Value.int IntKind.i64 65536,
                                                                      Value.int IntKind.i64 (↑s34.len : Int)])
                                                                  h31 fun (h35 : Mem) =>
                                                                  Br (decide (n21 < (↑refs.len : Int)))
                                                                    (Idx refs.a refs.len n21 fun (p36 : Addr) =>
                                                                      Ld PG ty_api_Ref (p36.add (n21.toNat * 3))
                                                                        (Kd.one (Cmp.agg [Leaf.int IntKind.u64, Leaf.int IntKind.i64, Leaf.int IntKind.i64])) h35
                                                                        fun (n37 n38 n39 : Int) =>
                                                                        CallF PG fn_dunnageref10_MayRef 
                                                                          [Value.agg #[Value.int IntKind.u64 n37, Value.int IntKind.i64 n38, Value.int IntKind.i64 n39]]
                                                                          (Kd.one (Cmp.leaf Leaf.bool)) h35 fun (b40 : Bool) (h41 : Mem) =>
                                                                          Br b40
                                                                            (Idx refs.a refs.len n21 fun (p42 : Addr) =>
                                                                              Ld PG ty_api_Ref (p42.add (n21.toNat * 3))
                                                                                (Kd.one (Cmp.agg [Leaf.int IntKind.u64, Leaf.int IntKind.i64, Leaf.int IntKind.i64])) h41
                                                                                fun (n43 n44 n45 : Int) =>
                                                                                St PG ty_api_Ref ((Addr.mk k27 0 none).add 1)
                                                                                  (Value.agg #[Value.int IntKind.u64 n43, Value.int IntKind.i64 n44, Value.int IntKind.i64 n45]) h41
                                                                                  fun (h46 : Mem) =>
                                                                                  Ld PG ty_sl_api_Change ((Addr.mk k15 0 none).add 2) (Kd.one (Cmp.leaf Leaf.sl)) h46 fun (s47 : Sl) =>
                                                                                    Ld PG ty_api_Change (Addr.mk k27 0 none)
                                                                                      (Kd.one
                                                                                        (Cmp.agg
                                                                                          [Leaf.str, Leaf.int IntKind.u64, Leaf.int IntKind.i64, Leaf.int IntKind.i64, Leaf.bool]))
                                                                                      h46 fun (t48 : ByteArray) (n49 n50 n51 : Int) (b52 : Bool) =>
                                                                                      New
                                                                                        (Obj.cells
                                                                                          #[Value.string t48, Value.int IntKind.u64 n49, Value.int IntKind.i64 n50,
                                                                                            Value.int IntKind.i64 n51, Value.bool b52]
                                                                                          43)
                                                                                        h46 fun (k53 : Nat) (h54 : Mem) =>
                                                                                        PrimT PG
                                                                                          (Builtin.append_ #[ty_sl_api_Change, ty_sl_api_Change] ty_sl_api_Change
                                                                                            #[Value.slice s47.a s47.len s47.cap, Value.slice (some (Addr.mk k53 0 none)) 1 1])
                                                                                          (Kd.one (Cmp.leaf Leaf.sl)) h54 fun (s55 : Sl) (h56 : Mem) =>
                                                                                          St PG ty_sl_api_Change ((Addr.mk k15 0 none).add 2) (Value.slice s55.a s55.len s55.cap) h56
                                                                                            fun (h57 : Mem) =>
                                                                                            I18 (IntKind.i64.wrap (n21 + 1)) h57 ∧ I19 (IntKind.i64.wrap (n21 + 1)) h57 < I19 n21 h22)
                                                                            (Ld PG ty_sl_api_Change ((Addr.mk k15 0 none).add 2) (Kd.one (Cmp.leaf Leaf.sl)) h41 fun (s58 : Sl) =>
                                                                              Ld PG ty_api_Change (Addr.mk k27 0 none)
                                                                                (Kd.one
                                                                                  (Cmp.agg [Leaf.str, Leaf.int IntKind.u64, Leaf.int IntKind.i64, Leaf.int IntKind.i64, Leaf.bool]))
                                                                                h41 fun (t59 : ByteArray) (n60 n61 n62 : Int) (b63 : Bool) =>
                                                                                New
                                                                                  (Obj.cells
                                                                                    #[Value.string t59, Value.int IntKind.u64 n60, Value.int IntKind.i64 n61,
                                                                                      Value.int IntKind.i64 n62, Value.bool b63]
                                                                                    43)
                                                                                  h41 fun (k64 : Nat) (h65 : Mem) =>
                                                                                  PrimT PG
                                                                                    (Builtin.append_ #[ty_sl_api_Change, ty_sl_api_Change] ty_sl_api_Change
                                                                                      #[Value.slice s58.a s58.len s58.cap, Value.slice (some (Addr.mk k64 0 none)) 1 1])
                                                                                    (Kd.one (Cmp.leaf Leaf.sl)) h65 fun (s66 : Sl) (h67 : Mem) =>
                                                                                    St PG ty_sl_api_Change ((Addr.mk k15 0 none).add 2) (Value.slice s66.a s66.len s66.cap) h67
                                                                                      fun (h68 : Mem) =>
                                                                                      I18 (IntKind.i64.wrap (n21 + 1)) h68 ∧ I19 (IntKind.i64.wrap (n21 + 1)) h68 < I19 n21 h22))
                                                                    (Ld PG ty_sl_api_Change ((Addr.mk k15 0 none).add 2) (Kd.one (Cmp.leaf Leaf.sl)) h35 fun (s69 : Sl) =>
                                                                      Ld PG ty_api_Change (Addr.mk k27 0 none)
                                                                        (Kd.one (Cmp.agg [Leaf.str, Leaf.int IntKind.u64, Leaf.int IntKind.i64, Leaf.int IntKind.i64, Leaf.bool])) h35
                                                                        fun (t70 : ByteArray) (n71 n72 n73 : Int) (b74 : Bool) =>
                                                                        New
                                                                          (Obj.cells
                                                                            #[Value.string t70, Value.int IntKind.u64 n71, Value.int IntKind.i64 n72, Value.int IntKind.i64 n73,
                                                                              Value.bool b74]
                                                                            43)
                                                                          h35 fun (k75 : Nat) (h76 : Mem) =>
                                                                          PrimT PG
                                                                            (Builtin.append_ #[ty_sl_api_Change, ty_sl_api_Change] ty_sl_api_Change
                                                                              #[Value.slice s69.a s69.len s69.cap, Value.slice (some (Addr.mk k75 0 none)) 1 1])
                                                                            (Kd.one (Cmp.leaf Leaf.sl)) h76 fun (s77 : Sl) (h78 : Mem) =>
                                                                            St PG ty_sl_api_Change ((Addr.mk k15 0 none).add 2) (Value.slice s77.a s77.len s77.cap) h78 fun (h79 : Mem) =>
                                                                              I18 (IntKind.i64.wrap (n21 + 1)) h79 ∧ I19 (IntKind.i64.wrap (n21 + 1)) h79 < I19 n21 h22))
                                                            (Ld PG ty_sl_api_Change ((Addr.mk k15 0 none).add 2) (Kd.one (Cmp.leaf Leaf.sl)) h31 fun (s80 : Sl) =>
                                                              Ld PG ty_api_Change (Addr.mk k27 0 none)
                                                                (Kd.one (Cmp.agg [Leaf.str, Leaf.int IntKind.u64, Leaf.int IntKind.i64, Leaf.int IntKind.i64, Leaf.bool])) h31
                                                                fun (t81 : ByteArray) (n82 n83 n84 : Int) (b85 : Bool) =>
                                                                New
                                                                  (Obj.cells
                                                                    #[Value.string t81, Value.int IntKind.u64 n82, Value.int IntKind.i64 n83, Value.int IntKind.i64 n84,
                                                                      Value.bool b85]
                                                                    43)
                                                                  h31 fun (k86 : Nat) (h87 : Mem) =>
                                                                  PrimT PG
                                                                    (Builtin.append_ #[ty_sl_api_Change, ty_sl_api_Change] ty_sl_api_Change #[Value.slice s80.a s80.len s80.cap, Value.slice (some (Addr.mk k86 0 none)) 1 1])
                                                                    (Kd.one (Cmp.leaf Leaf.sl)) h87 fun (s88 : Sl) (h89 : Mem) =>
                                                                    St PG ty_sl_api_Change ((Addr.mk k15 0 none).add 2) (Value.slice s88.a s88.len s88.cap) h89 fun (h90 : Mem) =>
                                                                      I18 (IntKind.i64.wrap (n21 + 1)) h90 ∧ I19 (IntKind.i64.wrap (n21 + 1)) h90 < I19 n21 h22))
                                        (Ld PG ty_api_Record (Addr.mk k15 0 none)
                                          (Kd.one
                                            (Cmp.agg
                                              [Leaf.int IntKind.i64, Leaf.int IntKind.u64, Leaf.sl, Leaf.int IntKind.u64, Leaf.int IntKind.i64, Leaf.int IntKind.i64,
                                                Leaf.int IntKind.i64]))
                                          h22 fun (n91 n92 : Int) (s93 : Sl) (n94 n95 n96 n97 : Int) =>
                                          CallF PG fn_batch_Write 
                                            [Value.agg
                                                #[Value.int IntKind.i64 n91, Value.int IntKind.u64 n92, Value.slice s93.a s93.len s93.cap, Value.int IntKind.u64 n94,
                                                  Value.int IntKind.i64 n95, Value.int IntKind.i64 n96, Value.int IntKind.i64 n97]]
                                            (Kd.tup [Cmp.leaf Leaf.sl, Cmp.leaf (Leaf.int IntKind.i64)]) h22 fun (s98 : Sl) (n99 : Int) (h100 : Mem) =>
                                            Br (n99 == 0)
                                              (Br (decide ((↑s98.len : Int) ≤ 8192))
                                                (CallF PG fn_word_Var [Value.int IntKind.u64 seq] (Kd.one (Cmp.leaf Leaf.sl)) h100 fun (s101 : Sl) (h102 : Mem) =>
                                                  Q (decide ((↑s98.len : Int) ≥ IntKind.i64.wrap (1 + (↑s101.len : Int)))) h102)
                                                (Q false h100))
                                              (Q false h100)))) ∧
                Br b5 (I7 true h6) (I7 (decide (seq < 1)) h6)) ∧
        Br (!b1) (I3 true h2)
          (CallF PG fn_batch_Check [Value.slice ops.a ops.len ops.cap] (Kd.one (Cmp.leaf (Leaf.int IntKind.i64))) h2 fun (n103 : Int) (h104 : Mem) => I3 (n103 != 0) h104)
theorem eq_dunnagelaw10_BatchFits (ops : Sl) (seq : Int) (refs : Sl) (h : Mem) (Q : Bool → Mem → Prop) : wp_dunnagelaw10_BatchFits ops seq refs h Q = evFn PG fn_dunnagelaw10_BatchFits tab_dunnagelaw10_BatchFits [.slice ops.a ops.len ops.cap, .int .u64 seq, .slice refs.a refs.len refs.cap] (.one (.leaf .bool)) h Q := by kernel_rfl
theorem ok_dunnagelaw10_BatchFits : okF PG fn_dunnagelaw10_BatchFits tab_dunnagelaw10_BatchFits = true := by kernel_rfl
theorem call_dunnagelaw10_BatchFits {ops : Sl} {seq : Int} {refs : Sl} {h : Mem} {Q : Bool → Mem → Prop} (w : wp_dunnagelaw10_BatchFits ops seq refs h Q) : CallF PG fn_dunnagelaw10_BatchFits [.slice ops.a ops.len ops.cap, .int .u64 seq, .slice refs.a refs.len refs.cap] (.one (.leaf .bool)) h Q := callF_of PM ok_dunnagelaw10_BatchFits (eq_dunnagelaw10_BatchFits ops seq refs h Q ▸ w)


end Go.Dn.W
