/- What each function asks for: typed text, and the theorem that the code does it: the document's differences. -/
import Derived.Test.YtemelcaoepaoiaaDnNames
set_option maxRecDepth 100000
set_option linter.unusedVariables false
namespace Go.Dn.W
open Go Go.Dn Go.Proofs

abbrev fn_dunnageref11_Differ : FuncId := 71
/- 71: dunnage/dunnageref11.Differ; loop 5: [out, i, k]; join 7: [d]; join 10: [i]; join 13: [k] -/
def tab_dunnageref11_Differ : Tab := ⟨[(5, ⟨[(5, .leaf .sl), (6, .leaf (.int .i64)), (7, .leaf (.int .i64))], [8, 17, 18, 19, 20, 21, 22, 23, 24, 25, 26, 27, 28, 29, 30, 31, 32, 33, 34, 35, 36, 37, 38, 39, 40, 41, 42, 43, 44, 45, 46, 47, 48, 49, 50, 51, 52, 53, 54, 55, 56, 57, 58, 59, 60, 61, 62, 63, 64, 65, 66, 67, 68, 69, 70, 71, 72, 73, 74, 75, 76, 77, 78, 79, 80, 81, 82, 83, 84, 85, 86, 87, 88, 89, 90, 91, 92, 93, 94, 95, 96, 97, 98, 99, 100, 101, 102, 103, 104, 105, 106, 107, 108, 109, 110, 111, 112, 113, 114, 115, 116, 117, 118, 119, 120, 121, 122, 123, 124, 125, 126, 127, 128, 129]⟩)], [(7, ⟨[(8, .leaf .ptr)], [27, 28, 29, 30, 31, 32, 33, 34, 35, 36, 37, 38, 39, 40, 41, 42, 43, 44, 45, 46, 47, 48, 49, 50, 51, 52, 53, 54, 55, 56, 57, 58, 59, 60, 61, 62, 63, 64, 65, 66, 67, 68, 69, 70, 71, 72, 73, 74, 75]⟩), (10, ⟨[(6, .leaf (.int .i64))], [76, 77, 78, 79, 80, 81, 82, 83, 84, 85, 86, 87, 88, 89, 90, 91, 92]⟩), (13, ⟨[(7, .leaf (.int .i64))], [93, 94, 95, 96, 97, 98, 99, 100, 101, 102, 103, 104, 105, 106, 107, 108, 109]⟩)], [(13, (chainT [(0, false), (1, false), (2, false), (3, false)] (.join ⟨[(117, .leaf .bool)], [114, 115, 116]⟩ (chainT [(4, false), (5, false), (6, false), (7, false)] .nil) (chainT [(8, false), (9, false), (10, false), (11, false), (12, false), (13, false), (14, false), (15, false)] .nil)))), (6, .nil), (5, (chainT [(0, false), (1, false), (2, false), (3, false), (4, false)] (.join ⟨[(26, .leaf .bool)], [22, 23, 24, 25]⟩ (chainT [(5, false), (6, false), (7, false), (8, false), (9, false)] .nil) .nil))), (1, (chainT [(0, false), (1, false), (2, false), (3, false)] (.join ⟨[(16, .leaf .bool)], [13, 14, 15]⟩ (chainT [(4, false), (5, false), (6, false), (7, false)] .nil) .nil)))]⟩
def wp_dunnageref11_Differ (a : Sl) (b : Sl) (h : Mem) (Q : Sl → Mem → Prop) : Prop :=
  CallF PG fn_dunnageref11_Right [Value.slice a.a a.len a.cap] (Kd.one (Cmp.leaf Leaf.bool)) h fun (b1 : Bool) (h2 : Mem) =>
    ∃ (I3 : Bool → Mem → Prop),
      (∀ (j4 : Fr) (b5 : Bool) (h6 : Mem),
          I3 b5 h6 →
            Br b5 (Q (Sl.mk none 0 0) h6)
              (∃ (I7 : Sl → Int → Int → Mem → Prop),
                ∃ (I8 : Sl → Int → Int → Mem → Nat),
                  I7 (Sl.mk none 0 0) 0 0 h6 ∧
                    ∀ (j9 : Fr) (s10 : Sl) (n11 n12 : Int) (h13 : Mem),
                      I7 s10 n11 n12 h13 →
                        ∃ (I14 : Bool → Mem → Prop),
                          (∀ (j15 : Fr) (b16 : Bool) (h17 : Mem),
                              I14 b16 h17 →
                                Br b16
                                  (∃ (I18 : Option Addr → Mem → Prop),
                                    (∀ (j19 : Fr) (q20 : Option Addr) (h21 : Mem),
                                        I18 q20 h21 →
                                          ∃ (I22 : Int → Mem → Prop),
                                            (∀ (j23 : Fr) (n24 : Int) (h25 : Mem),
                                                I22 n24 h25 →
                                                  ∃ (I26 : Int → Mem → Prop),
                                                    (∀ (j27 : Fr) (n28 : Int) (h29 : Mem),
                                                        I26 n28 h29 →
                                                          Deref q20 fun (p30 : Addr) =>
                                                            Ld PG ty_bool (p30.add 1) (Kd.one (Cmp.leaf Leaf.bool)) h29 fun (b31 : Bool) =>
                                                              ∃ (I32 : Bool → Mem → Prop),
                                                                (∀ (j33 : Fr) (b34 : Bool) (h35 : Mem),
                                                                    I32 b34 h35 →
                                                                      Br b34
                                                                        (Deref q20 fun (p36 : Addr) =>
                                                                          Ld PG ty_api_Diff p36 (Kd.one (Cmp.agg [Leaf.str, Leaf.bool, Leaf.bool, Leaf.sl, Leaf.sl])) h35
                                                                            fun (t37 : ByteArray) (b38 b39 : Bool) (s40 s41 : Sl) =>
                                                                            New
                                                                              (Obj.cells
                                                                                #[Value.string t37, Value.bool b38, Value.bool b39, Value.slice s40.a s40.len s40.cap,
                                                                                  Value.slice s41.a s41.len s41.cap]
                                                                                87)
                                                                              h35 fun (k42 : Nat) (h43 : Mem) =>
                                                                              PrimT PG
                                                                                (Builtin.append_ #[ty_sl_api_Diff, ty_sl_api_Diff] ty_sl_api_Diff
                                                                                  #[Value.slice s10.a s10.len s10.cap, Value.slice (some (Addr.mk k42 0 none)) 1 1])
                                                                                (Kd.one (Cmp.leaf Leaf.sl)) h43 fun (s44 : Sl) (h45 : Mem) =>
                                                                                I7 (Sl.mk s44.a s44.len s44.cap) n24 n28 h45 ∧
                                                                                  I8 (Sl.mk s44.a s44.len s44.cap) n24 n28 h45 < I8 s10 n11 n12 h13)
                                                                        (Deref q20 fun (p46 : Addr) =>
                                                                          Ld PG ty_sl_uint8 (p46.add 3) (Kd.one (Cmp.leaf Leaf.sl)) h35 fun (s47 : Sl) =>
                                                                            Deref q20 fun (p48 : Addr) =>
                                                                              Ld PG ty_sl_uint8 (p48.add 4) (Kd.one (Cmp.leaf Leaf.sl)) h35 fun (s49 : Sl) =>
                                                                                CallF PG fn_dunnagehelp_Bytes [Value.slice s47.a s47.len s47.cap, Value.slice s49.a s49.len s49.cap]
                                                                                  (Kd.one (Cmp.leaf Leaf.bool)) h35 fun (b50 : Bool) (h51 : Mem) =>
                                                                                  Br (!b50)
                                                                                    (Deref q20 fun (p52 : Addr) =>
                                                                                      Ld PG ty_api_Diff p52 (Kd.one (Cmp.agg [Leaf.str, Leaf.bool, Leaf.bool, Leaf.sl, Leaf.sl])) h51
                                                                                        fun (t53 : ByteArray) (b54 b55 : Bool) (s56 s57 : Sl) =>
                                                                                        New
                                                                                          (Obj.cells
                                                                                            #[Value.string t53, Value.bool b54, Value.bool b55, Value.slice s56.a s56.len s56.cap,
                                                                                              Value.slice s57.a s57.len s57.cap]
                                                                                            87)
                                                                                          h51 fun (k58 : Nat) (h59 : Mem) =>
                                                                                          PrimT PG
                                                                                            (Builtin.append_ #[ty_sl_api_Diff, ty_sl_api_Diff] ty_sl_api_Diff
                                                                                              #[Value.slice s10.a s10.len s10.cap, Value.slice (some (Addr.mk k58 0 none)) 1 1])
                                                                                            (Kd.one (Cmp.leaf Leaf.sl)) h59 fun (s60 : Sl) (h61 : Mem) =>
                                                                                            I7 (Sl.mk s60.a s60.len s60.cap) n24 n28 h61 ∧
                                                                                              I8 (Sl.mk s60.a s60.len s60.cap) n24 n28 h61 < I8 s10 n11 n12 h13)
                                                                                    (I7 (Sl.mk s10.a s10.len s10.cap) n24 n28 h51 ∧
                                                                                      I8 (Sl.mk s10.a s10.len s10.cap) n24 n28 h51 < I8 s10 n11 n12 h13))) ∧
                                                                  Br (!b31) (I32 true h29)
                                                                    (Deref q20 fun (p62 : Addr) =>
                                                                      Ld PG ty_bool (p62.add 2) (Kd.one (Cmp.leaf Leaf.bool)) h29 fun (b63 : Bool) => I32 (!b63) h29)) ∧
                                                      Deref q20 fun (p64 : Addr) =>
                                                        Ld PG ty_bool (p64.add 2) (Kd.one (Cmp.leaf Leaf.bool)) h25 fun (b65 : Bool) =>
                                                          Br b65
                                                            (Idx b.a b.len n12 fun (p66 : Addr) =>
                                                              Ld PG ty_string (p66.add (n12.toNat * 2)) (Kd.one (Cmp.leaf Leaf.str)) h25 fun (t67 : ByteArray) =>
                                                                Idx b.a b.len n12 fun (p68 : Addr) =>
                                                                  Ld PG ty_sl_uint8 ((p68.add (n12.toNat * 2)).add 1) (Kd.one (Cmp.leaf Leaf.sl)) h25 fun (s69 : Sl) =>
                                                                    Deref q20 fun (p70 : Addr) =>
                                                                      CallF PG fn_dunnagehelp_CopyBytes [Value.slice s69.a s69.len s69.cap] (Kd.one (Cmp.leaf Leaf.sl)) h25
                                                                        fun (s71 : Sl) (h72 : Mem) =>
                                                                        (Ld PG ty_string (p66.add (n12.toNat * 2)) (Kd.one (Cmp.leaf Leaf.str)) h72 fun (t73 : ByteArray) =>
                                                                            Value.string t73 = Value.string t67) ∧
                                                                          St PG ty_string p70 (Value.string t67) h72 fun (h74 : Mem) =>
                                                                            Deref q20 fun (p75 : Addr) =>
                                                                              St PG ty_sl_uint8 (p75.add 4) (Value.slice s71.a s71.len s71.cap) h74 fun (h76 : Mem) =>
                                                                                I26 (IntKind.i64.wrap (n12 + 1)) h76)
                                                            (I26 n12 h25)) ∧
                                              Deref q20 fun (p77 : Addr) =>
                                                Ld PG ty_bool (p77.add 1) (Kd.one (Cmp.leaf Leaf.bool)) h21 fun (b78 : Bool) =>
                                                  Br b78
                                                    (Idx a.a a.len n11 fun (p79 : Addr) =>
                                                      Ld PG ty_string (p79.add (n11.toNat * 2)) (Kd.one (Cmp.leaf Leaf.str)) h21 fun (t80 : ByteArray) =>
                                                        Idx a.a a.len n11 fun (p81 : Addr) =>
                                                          Ld PG ty_sl_uint8 ((p81.add (n11.toNat * 2)).add 1) (Kd.one (Cmp.leaf Leaf.sl)) h21 fun (s82 : Sl) =>
                                                            Deref q20 fun (p83 : Addr) =>
                                                              CallF PG fn_dunnagehelp_CopyBytes [Value.slice s82.a s82.len s82.cap] (Kd.one (Cmp.leaf Leaf.sl)) h21 fun (s84 : Sl) (h85 : Mem) =>
                                                                (Ld PG ty_string (p79.add (n11.toNat * 2)) (Kd.one (Cmp.leaf Leaf.str)) h85 fun (t86 : ByteArray) =>
                                                                    Value.string t86 = Value.string t80) ∧
                                                                  St PG ty_string p83 (Value.string t80) h85 fun (h87 : Mem) =>
                                                                    Deref q20 fun (p88 : Addr) =>
                                                                      St PG ty_sl_uint8 (p88.add 3) (Value.slice s84.a s84.len s84.cap) h87 fun (h89 : Mem) =>
                                                                        I22 (IntKind.i64.wrap (n11 + 1)) h89)
                                                    (I22 n11 h21)) ∧
                                      Br (n12 == (↑b.len : Int))
                                        (Br (n11 == (↑a.len : Int))
                                            ((New (Obj.cells #[Value.string (ByteArray.mk #[]), Value.bool false, Value.bool false, Value.slice none 0 0, Value.slice none 0 0] 87)
                                                h17 fun (k90 : Nat) (h91 : Mem) =>
                                                St PG ty_api_Diff (Addr.mk k90 0 none)
                                                  (Value.agg #[Value.string (ByteArray.mk #[]), Value.bool true, Value.bool true, Value.slice none 0 0, Value.slice none 0 0]) h91
                                                  fun (h92 : Mem) => I18 (some (Addr.mk k90 0 none)) h92) ∧
                                              New (Obj.cells #[Value.string (ByteArray.mk #[]), Value.bool false, Value.bool false, Value.slice none 0 0, Value.slice none 0 0] 87)
                                                h17 fun (k93 : Nat) (h94 : Mem) =>
                                                St PG ty_api_Diff (Addr.mk k93 0 none)
                                                  (Value.agg #[Value.string (ByteArray.mk #[]), Value.bool true, Value.bool true, Value.slice none 0 0, Value.slice none 0 0]) h94
                                                  fun (h95 : Mem) => I18 (some (Addr.mk k93 0 none)) h95)
                                            (Br (decide (n12 < (↑b.len : Int)))
                                              (Idx a.a a.len n11 fun (p96 : Addr) =>
                                                Ld PG ty_string (p96.add (n11.toNat * 2)) (Kd.one (Cmp.leaf Leaf.str)) h17 fun (t97 : ByteArray) =>
                                                  Idx b.a b.len n12 fun (p98 : Addr) =>
                                                    Ld PG ty_string (p98.add (n12.toNat * 2)) (Kd.one (Cmp.leaf Leaf.str)) h17 fun (t99 : ByteArray) =>
                                                      (CallF PG fn_dunnageref09_Less [Value.string t97, Value.string t99] (Kd.one (Cmp.leaf Leaf.bool)) h17 fun (b100 : Bool) (h101 : Mem) =>
                                                          New
                                                            (Obj.cells
                                                              #[Value.string (ByteArray.mk #[]), Value.bool false, Value.bool false, Value.slice none 0 0, Value.slice none 0 0] 87)
                                                            h101 fun (k102 : Nat) (h103 : Mem) =>
                                                            St PG ty_api_Diff (Addr.mk k102 0 none)
                                                              (Value.agg
                                                                #[Value.string (ByteArray.mk #[]), Value.bool true, Value.bool !b100, Value.slice none 0 0, Value.slice none 0 0])
                                                              h103 fun (h104 : Mem) => I18 (some (Addr.mk k102 0 none)) h104) ∧
                                                        New
                                                          (Obj.cells
                                                            #[Value.string (ByteArray.mk #[]), Value.bool false, Value.bool false, Value.slice none 0 0, Value.slice none 0 0] 87)
                                                          h17 fun (k105 : Nat) (h106 : Mem) =>
                                                          (Ld PG ty_string (p98.add (n12.toNat * 2)) (Kd.one (Cmp.leaf Leaf.str)) h106 fun (t107 : ByteArray) =>
                                                              Value.string t107 = Value.string t99) ∧
                                                            (Ld PG ty_string (p96.add (n11.toNat * 2)) (Kd.one (Cmp.leaf Leaf.str)) h106 fun (t108 : ByteArray) =>
                                                                Value.string t108 = Value.string t97) ∧
                                                              CallF PG fn_dunnageref09_Less [Value.string t97, Value.string t99] (Kd.one (Cmp.leaf Leaf.bool)) h106
                                                                fun (b109 : Bool) (h110 : Mem) =>
                                                                St PG ty_api_Diff (Addr.mk k105 0 none)
                                                                  (Value.agg
                                                                    #[Value.string (ByteArray.mk #[]), Value.bool true, Value.bool !b109, Value.slice none 0 0, Value.slice none 0 0])
                                                                  h110 fun (h111 : Mem) => I18 (some (Addr.mk k105 0 none)) h111)
                                              ((New (Obj.cells #[Value.string (ByteArray.mk #[]), Value.bool false, Value.bool false, Value.slice none 0 0, Value.slice none 0 0] 87)
                                                  h17 fun (k112 : Nat) (h113 : Mem) =>
                                                  St PG ty_api_Diff (Addr.mk k112 0 none)
                                                    (Value.agg #[Value.string (ByteArray.mk #[]), Value.bool true, Value.bool false, Value.slice none 0 0, Value.slice none 0 0]) h113
                                                    fun (h114 : Mem) => I18 (some (Addr.mk k112 0 none)) h114) ∧
                                                New (Obj.cells #[Value.string (ByteArray.mk #[]), Value.bool false, Value.bool false, Value.slice none 0 0, Value.slice none 0 0] 87)
                                                  h17 fun (k115 : Nat) (h116 : Mem) =>
                                                  St PG ty_api_Diff (Addr.mk k115 0 none)
                                                    (Value.agg #[Value.string (ByteArray.mk #[]), Value.bool true, Value.bool false, Value.slice none 0 0, Value.slice none 0 0]) h116
                                                    fun (h117 : Mem) => I18 (some (Addr.mk k115 0 none)) h117)) ∧
                                          New (Obj.cells #[Value.string (ByteArray.mk #[]), Value.bool false, Value.bool false, Value.slice none 0 0, Value.slice none 0 0] ty_api_Diff) h17
                                            fun (k118 : Nat) (h119 : Mem) =>
                                            Br (n11 == (↑a.len : Int))
                                              (St PG ty_api_Diff (Addr.mk k118 0 none)
                                                (Value.agg #[Value.string (ByteArray.mk #[]), Value.bool true, Value.bool true, Value.slice none 0 0, Value.slice none 0 0]) h119
                                                fun (h120 : Mem) => I18 (some (Addr.mk k118 0 none)) h120)
                                              (Br (decide (n12 < (↑b.len : Int)))
                                                (Idx a.a a.len n11 fun (p121 : Addr) =>
                                                  Ld PG ty_string (p121.add (n11.toNat * 2)) (Kd.one (Cmp.leaf Leaf.str)) h119 fun (t122 : ByteArray) =>
                                                    Idx b.a b.len n12 fun (p123 : Addr) =>
                                                      Ld PG ty_string (p123.add (n12.toNat * 2)) (Kd.one (Cmp.leaf Leaf.str)) h119 fun (t124 : ByteArray) =>
                                                        CallF PG fn_dunnageref09_Less [Value.string t122, Value.string t124] (Kd.one (Cmp.leaf Leaf.bool)) h119 fun (b125 : Bool) (h126 : Mem) =>
                                                          St PG ty_api_Diff (Addr.mk k118 0 none)
                                                            (Value.agg
                                                              #[Value.string (ByteArray.mk #[]), Value.bool true, Value.bool !b125, Value.slice none 0 0, Value.slice none 0 0])
                                                            h126 fun (h127 : Mem) => I18 (some (Addr.mk k118 0 none)) h127)
                                                (St PG ty_api_Diff (Addr.mk k118 0 none)
                                                  (Value.agg #[Value.string (ByteArray.mk #[]), Value.bool true, Value.bool false, Value.slice none 0 0, Value.slice none 0 0]) h119
                                                  fun (h128 : Mem) => I18 (some (Addr.mk k118 0 none)) h128)))
                                        (Br (decide (n11 < (↑a.len : Int)))
                                          (Idx b.a b.len n12 fun (p129 : Addr) =>
                                            Ld PG ty_string (p129.add (n12.toNat * 2)) (Kd.one (Cmp.leaf Leaf.str)) h17 fun (t130 : ByteArray) =>
                                              Idx a.a a.len n11 fun (p131 : Addr) =>
                                                Ld PG ty_string (p131.add (n11.toNat * 2)) (Kd.one (Cmp.leaf Leaf.str)) h17 fun (t132 : ByteArray) =>
                                                  (CallF PG fn_dunnageref09_Less [Value.string t130, Value.string t132] (Kd.one (Cmp.leaf Leaf.bool)) h17 fun (b133 : Bool) (h134 : Mem) =>
                                                      Br (n11 == (↑a.len : Int))
                                                        ((New
                                                            (Obj.cells
                                                              #[Value.string (ByteArray.mk #[]), Value.bool false, Value.bool false, Value.slice none 0 0, Value.slice none 0 0] 87)
                                                            h134 fun (k135 : Nat) (h136 : Mem) =>
                                                            St PG ty_api_Diff (Addr.mk k135 0 none)
                                                              (Value.agg
                                                                #[Value.string (ByteArray.mk #[]), Value.bool !b133, Value.bool true, Value.slice none 0 0, Value.slice none 0 0])
                                                              h136 fun (h137 : Mem) => I18 (some (Addr.mk k135 0 none)) h137) ∧
                                                          New
                                                            (Obj.cells
                                                              #[Value.string (ByteArray.mk #[]), Value.bool false, Value.bool false, Value.slice none 0 0, Value.slice none 0 0] 87)
                                                            h134 fun (k138 : Nat) (h139 : Mem) =>
                                                            St PG ty_api_Diff (Addr.mk k138 0 none)
                                                              (Value.agg
                                                                #[Value.string (ByteArray.mk #[]), Value.bool !b133, Value.bool true, Value.slice none 0 0, Value.slice none 0 0])
                                                              h139 fun (h140 : Mem) => I18 (some (Addr.mk k138 0 none)) h140)
                                                        (Br (decide (n12 < (↑b.len : Int)))
                                                          (Idx a.a a.len n11 fun (p141 : Addr) =>
                                                            Ld PG ty_string (p141.add (n11.toNat * 2)) (Kd.one (Cmp.leaf Leaf.str)) h134 fun (t142 : ByteArray) =>
                                                              Idx b.a b.len n12 fun (p143 : Addr) =>
                                                                Ld PG ty_string (p143.add (n12.toNat * 2)) (Kd.one (Cmp.leaf Leaf.str)) h134 fun (t144 : ByteArray) =>
                                                                  (CallF PG fn_dunnageref09_Less [Value.string t142, Value.string t144] (Kd.one (Cmp.leaf Leaf.bool)) h134
                                                                      fun (b145 : Bool) (h146 : Mem) =>
                                                                      New
                                                                        (Obj.cells
                                                                          #[Value.string (ByteArray.mk #[]), Value.bool false, Value.bool false, Value.slice none 0 0,
                                                                            Value.slice none 0 0]
                                                                          87)
                                                                        h146 fun (k147 : Nat) (h148 : Mem) =>
                                                                        St PG ty_api_Diff (Addr.mk k147 0 none)
                                                                          (Value.agg
                                                                            #[Value.string (ByteArray.mk #[]), Value.bool !b133, Value.bool !b145, Value.slice none 0 0,
                                                                              Value.slice none 0 0])
                                                                          h148 fun (h149 : Mem) => I18 (some (Addr.mk k147 0 none)) h149) ∧
                                                                    New
                                                                      (Obj.cells
                                                                        #[Value.string (ByteArray.mk #[]), Value.bool false, Value.bool false, Value.slice none 0 0,
                                                                          Value.slice none 0 0]
                                                                        87)
                                                                      h134 fun (k150 : Nat) (h151 : Mem) =>
                                                                      (Ld PG ty_string (p143.add (n12.toNat * 2)) (Kd.one (Cmp.leaf Leaf.str)) h151 fun (t152 : ByteArray) =>
                                                                          Value.string t152 = Value.string t144) ∧
                                                                        (Ld PG ty_string (p141.add (n11.toNat * 2)) (Kd.one (Cmp.leaf Leaf.str)) h151 fun (t153 : ByteArray) =>
                                                                            Value.string t153 = Value.string t142) ∧
                                                                          CallF PG fn_dunnageref09_Less [Value.string t142, Value.string t144] (Kd.one (Cmp.leaf Leaf.bool)) h151
                                                                            fun (b154 : Bool) (h155 : Mem) =>
                                                                            St PG ty_api_Diff (Addr.mk k150 0 none)
                                                                              (Value.agg
                                                                                #[Value.string (ByteArray.mk #[]), Value.bool !b133, Value.bool !b154, Value.slice none 0 0,
                                                                                  Value.slice none 0 0])
                                                                              h155 fun (h156 : Mem) => I18 (some (Addr.mk k150 0 none)) h156)
                                                          ((New
                                                              (Obj.cells
                                                                #[Value.string (ByteArray.mk #[]), Value.bool false, Value.bool false, Value.slice none 0 0, Value.slice none 0 0] 87)
                                                              h134 fun (k157 : Nat) (h158 : Mem) =>
                                                              St PG ty_api_Diff (Addr.mk k157 0 none)
                                                                (Value.agg
                                                                  #[Value.string (ByteArray.mk #[]), Value.bool !b133, Value.bool false, Value.slice none 0 0, Value.slice none 0 0])
                                                                h158 fun (h159 : Mem) => I18 (some (Addr.mk k157 0 none)) h159) ∧
                                                            New
                                                              (Obj.cells
                                                                #[Value.string (ByteArray.mk #[]), Value.bool false, Value.bool false, Value.slice none 0 0, Value.slice none 0 0] 87)
                                                              h134 fun (k160 : Nat) (h161 : Mem) =>
                                                              St PG ty_api_Diff (Addr.mk k160 0 none)
                                                                (Value.agg
                                                                  #[Value.string (ByteArray.mk #[]), Value.bool !b133, Value.bool false, Value.slice none 0 0, Value.slice none 0 0])
                                                                h161 fun (h162 : Mem) => I18 (some (Addr.mk k160 0 none)) h162))) ∧
                                                    New
                                                      (Obj.cells #[Value.string (ByteArray.mk #[]), Value.bool false, Value.bool false, Value.slice none 0 0, Value.slice none 0 0]
                                                        87)
                                                      h17 fun (k163 : Nat) (h164 : Mem) =>
                                                      (Ld PG ty_string (p131.add (n11.toNat * 2)) (Kd.one (Cmp.leaf Leaf.str)) h164 fun (t165 : ByteArray) =>
                                                          Value.string t165 = Value.string t132) ∧
                                                        (Ld PG ty_string (p129.add (n12.toNat * 2)) (Kd.one (Cmp.leaf Leaf.str)) h164 fun (t166 : ByteArray) =>
                                                            Value.string t166 = Value.string t130) ∧
                                                          CallF PG fn_dunnageref09_Less [Value.string t130, Value.string t132] (Kd.one (Cmp.leaf Leaf.bool)) h164
                                                            fun (b167 : Bool) (h168 : Mem) =>
                                                            Br (n11 == (↑a.len : Int))
                                                              (St PG ty_api_Diff (Addr.mk k163 0 none)
                                                                (Value.agg
                                                                  #[Value.string (ByteArray.mk #[]), Value.bool !b167, Value.bool true, Value.slice none 0 0, Value.slice none 0 0])
                                                                h168 fun (h169 : Mem) => I18 (some (Addr.mk k163 0 none)) h169)
                                                              (Br (decide (n12 < (↑b.len : Int)))
                                                                (Idx a.a a.len n11 fun (p170 : Addr) =>
                                                                  Ld PG ty_string (p170.add (n11.toNat * 2)) (Kd.one (Cmp.leaf Leaf.str)) h168 fun (t171 : ByteArray) =>
                                                                    Idx b.a b.len n12 fun (p172 : Addr) =>
                                                                      Ld PG ty_string (p172.add (n12.toNat * 2)) (Kd.one (Cmp.leaf Leaf.str)) h168 fun (t173 : ByteArray) =>
                                                                        CallF PG fn_dunnageref09_Less [Value.string t171, Value.string t173] (Kd.one (Cmp.leaf Leaf.bool)) h168
                                                                          fun (b174 : Bool) (h175 : Mem) =>
                                                                          St PG ty_api_Diff (Addr.mk k163 0 none)
                                                                            (Value.agg
                                                                              #[Value.string (ByteArray.mk #[]), Value.bool !b167, Value.bool !b174, Value.slice none 0 0,
                                                                                Value.slice none 0 0])
                                                                            h175 fun (h176 : Mem) => I18 (some (Addr.mk k163 0 none)) h176)
                                                                (St PG ty_api_Diff (Addr.mk k163 0 none)
                                                                  (Value.agg
                                                                    #[Value.string (ByteArray.mk #[]), Value.bool !b167, Value.bool false, Value.slice none 0 0,
                                                                      Value.slice none 0 0])
                                                                  h168 fun (h177 : Mem) => I18 (some (Addr.mk k163 0 none)) h177)))
                                          (Br (n11 == (↑a.len : Int))
                                              ((New (Obj.cells #[Value.string (ByteArray.mk #[]), Value.bool false, Value.bool false, Value.slice none 0 0, Value.slice none 0 0] 87)
                                                  h17 fun (k178 : Nat) (h179 : Mem) =>
                                                  St PG ty_api_Diff (Addr.mk k178 0 none)
                                                    (Value.agg #[Value.string (ByteArray.mk #[]), Value.bool false, Value.bool true, Value.slice none 0 0, Value.slice none 0 0]) h179
                                                    fun (h180 : Mem) => I18 (some (Addr.mk k178 0 none)) h180) ∧
                                                New (Obj.cells #[Value.string (ByteArray.mk #[]), Value.bool false, Value.bool false, Value.slice none 0 0, Value.slice none 0 0] 87)
                                                  h17 fun (k181 : Nat) (h182 : Mem) =>
                                                  St PG ty_api_Diff (Addr.mk k181 0 none)
                                                    (Value.agg #[Value.string (ByteArray.mk #[]), Value.bool false, Value.bool true, Value.slice none 0 0, Value.slice none 0 0]) h182
                                                    fun (h183 : Mem) => I18 (some (Addr.mk k181 0 none)) h183)
                                              (Br (decide (n12 < (↑b.len : Int)))
                                                (Idx a.a a.len n11 fun (p184 : Addr) =>
                                                  Ld PG ty_string (p184.add (n11.toNat * 2)) (Kd.one (Cmp.leaf Leaf.str)) h17 fun (t185 : ByteArray) =>
                                                    Idx b.a b.len n12 fun (p186 : Addr) =>
                                                      Ld PG ty_string (p186.add (n12.toNat * 2)) (Kd.one (Cmp.leaf Leaf.str)) h17 fun (t187 : ByteArray) =>
                                                        (CallF PG fn_dunnageref09_Less [Value.string t185, Value.string t187] (Kd.one (Cmp.leaf Leaf.bool)) h17 fun (b188 : Bool) (h189 : Mem) =>
                                                            New
                                                              (Obj.cells
                                                                #[Value.string (ByteArray.mk #[]), Value.bool false, Value.bool false, Value.slice none 0 0, Value.slice none 0 0] 87)
                                                              h189 fun (k190 : Nat) (h191 : Mem) =>
                                                              St PG ty_api_Diff (Addr.mk k190 0 none)
                                                                (Value.agg
                                                                  #[Value.string (ByteArray.mk #[]), Value.bool false, Value.bool !b188, Value.slice none 0 0, Value.slice none 0 0])
                                                                h191 fun (h192 : Mem) => I18 (some (Addr.mk k190 0 none)) h192) ∧
                                                          New
                                                            (Obj.cells
                                                              #[Value.string (ByteArray.mk #[]), Value.bool false, Value.bool false, Value.slice none 0 0, Value.slice none 0 0] 87)
                                                            h17 fun (k193 : Nat) (h194 : Mem) =>
                                                            (Ld PG ty_string (p186.add (n12.toNat * 2)) (Kd.one (Cmp.leaf Leaf.str)) h194 fun (t195 : ByteArray) =>
                                                                Value.string t195 = Value.string t187) ∧
                                                              (Ld PG ty_string (p184.add (n11.toNat * 2)) (Kd.one (Cmp.leaf Leaf.str)) h194 fun (t196 : ByteArray) =>
                                                                  Value.string t196 = Value.string t185) ∧
                                                                CallF PG fn_dunnageref09_Less [Value.string t185, Value.string t187] (Kd.one (Cmp.leaf Leaf.bool)) h194
                                                                  fun (b197 : Bool) (h198 : Mem) =>
                                                                  St PG ty_api_Diff (Addr.mk k193 0 none)
                                                                    (Value.agg
                                                                      #[Value.string (ByteArray.mk #[]), Value.bool false, Value.bool !b197, Value.slice none 0 0,
                                                                        Value.slice none 0 0])
                                                                    h198 fun (h199 : Mem) => I18 (some (Addr.mk k193 0 none)) h199)
                                                ((New
                                                    (Obj.cells #[Value.string (ByteArray.mk #[]), Value.bool false, Value.bool false, Value.slice none 0 0, Value.slice none 0 0] 87)
                                                    h17 fun (k200 : Nat) (h201 : Mem) =>
                                                    St PG ty_api_Diff (Addr.mk k200 0 none)
                                                      (Value.agg #[Value.string (ByteArray.mk #[]), Value.bool false, Value.bool false, Value.slice none 0 0, Value.slice none 0 0])
                                                      h201 fun (h202 : Mem) => I18 (some (Addr.mk k200 0 none)) h202) ∧
                                                  New
                                                    (Obj.cells #[Value.string (ByteArray.mk #[]), Value.bool false, Value.bool false, Value.slice none 0 0, Value.slice none 0 0] 87)
                                                    h17 fun (k203 : Nat) (h204 : Mem) =>
                                                    St PG ty_api_Diff (Addr.mk k203 0 none)
                                                      (Value.agg #[Value.string (ByteArray.mk #[]), Value.bool false, Value.bool false, Value.slice none 0 0, Value.slice none 0 0])
                                                      h204 fun (h205 : Mem) => I18 (some (Addr.mk k203 0 none)) h205)) ∧
                                            New (Obj.cells #[Value.string (ByteArray.mk #[]), Value.bool false, Value.bool false, Value.slice none 0 0, Value.slice none 0 0] ty_api_Diff) h17
                                              fun (k206 : Nat) (h207 : Mem) =>
                                              Br (n11 == (↑a.len : Int))
                                                (St PG ty_api_Diff (Addr.mk k206 0 none)
                                                  (Value.agg #[Value.string (ByteArray.mk #[]), Value.bool false, Value.bool true, Value.slice none 0 0, Value.slice none 0 0]) h207
                                                  fun (h208 : Mem) => I18 (some (Addr.mk k206 0 none)) h208)
                                                (Br (decide (n12 < (↑b.len : Int)))
                                                  (Idx a.a a.len n11 fun (p209 : Addr) =>
                                                    Ld PG ty_string (p209.add (n11.toNat * 2)) (Kd.one (Cmp.leaf Leaf.str)) h207 fun (t210 : ByteArray) =>
                                                      Idx b.a b.len n12 fun (p211 : Addr) =>
                                                        Ld PG ty_string (p211.add (n12.toNat * 2)) (Kd.one (Cmp.leaf Leaf.str)) h207 fun (t212 : ByteArray) =>
                                                          CallF PG fn_dunnageref09_Less [Value.string t210, Value.string t212] (Kd.one (Cmp.leaf Leaf.bool)) h207
                                                            fun (b213 : Bool) (h214 : Mem) =>
                                                            St PG ty_api_Diff (Addr.mk k206 0 none)
                                                              (Value.agg
                                                                #[Value.string (ByteArray.mk #[]), Value.bool false, Value.bool !b213, Value.slice none 0 0, Value.slice none 0 0])
                                                              h214 fun (h215 : Mem) => I18 (some (Addr.mk k206 0 none)) h215)
                                                  (St PG ty_api_Diff (Addr.mk k206 0 none)
                                                    (Value.agg #[Value.string (ByteArray.mk #[]), Value.bool false, Value.bool false, Value.slice none 0 0, Value.slice none 0 0])
                                                    h207 fun (h216 : Mem) => I18 (some (Addr.mk k206 0 none)) h216)))))
                                  (Q (Sl.mk s10.a s10.len s10.cap) h17)) ∧
                            Br (decide (n11 < (↑a.len : Int))) (I14 true h13) (I14 (decide (n12 < (↑b.len : Int))) h13))) ∧
        Br (!b1) (I3 true h2) (CallF PG fn_dunnageref11_Right [Value.slice b.a b.len b.cap] (Kd.one (Cmp.leaf Leaf.bool)) h2 fun (b217 : Bool) (h218 : Mem) => I3 (!b217) h218)
theorem eq_dunnageref11_Differ (a : Sl) (b : Sl) (h : Mem) (Q : Sl → Mem → Prop) : wp_dunnageref11_Differ a b h Q = evFn PG fn_dunnageref11_Differ tab_dunnageref11_Differ [.slice a.a a.len a.cap, .slice b.a b.len b.cap] (.one (.leaf .sl)) h Q := by kernel_rfl
theorem ok_dunnageref11_Differ : okF PG fn_dunnageref11_Differ tab_dunnageref11_Differ = true := by kernel_rfl
theorem call_dunnageref11_Differ {a : Sl} {b : Sl} {h : Mem} {Q : Sl → Mem → Prop} (w : wp_dunnageref11_Differ a b h Q) : CallF PG fn_dunnageref11_Differ [.slice a.a a.len a.cap, .slice b.a b.len b.cap] (.one (.leaf .sl)) h Q := callF_of PM ok_dunnageref11_Differ (eq_dunnageref11_Differ a b h Q ▸ w)

end Go.Dn.W
