/- What each function asks for: typed text, and the theorem that the code does it. -/
import Derived.Test.YtbipdjmdacelkaaGreatDnNames
set_option maxRecDepth 100000
set_option linter.unusedVariables false
namespace Go.Dn.W
open Go Go.Dn Go.Proofs

/- 20: dunnage/dunnagelaw17.awake -/
def tab_dunnagelaw17_awake : Tab := ⟨[], [], []⟩
def wp_dunnagelaw17_awake  (h : Mem) (Q : Bool → Mem → Prop) : Prop :=
  CallF PG fn_btree_New [Value.int IntKind.i64 4096] (Kd.tup [Cmp.leaf Leaf.ptr, Cmp.leaf (Leaf.int IntKind.i64)]) h fun (q1 : Option Addr) (n2 : Int) (h3 : Mem) =>
    Br (n2 != 0) (Q false h3)
      (Br
        (match q1 with
        | some p5 => false
        | none => true)
        (Q false h3)
        (CallF PG fn_btree_Forest_Put 
          [Value.pointer q1, Value.int IntKind.i64 0, Value.string (ByteArray.mk #[97]), Value.agg #[Value.int IntKind.u64 1, Value.int IntKind.i64 0, Value.int IntKind.i64 5]]
          (Kd.one (Cmp.leaf (Leaf.int IntKind.i64))) h3 fun (n7 : Int) (h8 : Mem) =>
          Br (n7 != 0) (Q false h8)
            (CallF PG fn_btree_Forest_Get [Value.pointer q1, Value.int IntKind.i64 0, Value.string (ByteArray.mk #[97])]
              (Kd.tup [Cmp.agg [Leaf.int IntKind.u64, Leaf.int IntKind.i64, Leaf.int IntKind.i64], Cmp.leaf Leaf.bool]) h8 fun (n9 n10 n11 : Int) (b12 : Bool) (h13 : Mem) =>
              New (Obj.cells #[Value.int IntKind.u64 0, Value.int IntKind.i64 0, Value.int IntKind.i64 0] ty_api_Ref) h13 fun (k14 : Nat) (h15 : Mem) =>
                St PG ty_api_Ref (Addr.mk k14 0 none) (Value.agg #[Value.int IntKind.u64 n9, Value.int IntKind.i64 n10, Value.int IntKind.i64 n11]) h15 fun (h16 : Mem) =>
                  Br b12
                    (Ld PG ty_api_Ref (Addr.mk k14 0 none) (Kd.one (Cmp.agg [Leaf.int IntKind.u64, Leaf.int IntKind.i64, Leaf.int IntKind.i64])) h16 fun (n17 n18 n19 : Int) =>
                      EqP PG BinOp.eql ty_api_Ref (Value.agg #[Value.int IntKind.u64 n17, Value.int IntKind.i64 n18, Value.int IntKind.i64 n19])
                        (Value.agg #[Value.int IntKind.u64 1, Value.int IntKind.i64 0, Value.int IntKind.i64 5]) fun (b20 : Bool) =>
                        Br b20
                          (CallF PG fn_btree_Forest_Len [Value.pointer q1, Value.int IntKind.i64 0] (Kd.one (Cmp.leaf (Leaf.int IntKind.i64))) h16 fun (n21 : Int) (h22 : Mem) =>
                            Q (n21 == 1) h22)
                          (Q false h16))
                    (Q false h16))))
theorem eq_dunnagelaw17_awake  (h : Mem) (Q : Bool → Mem → Prop) : wp_dunnagelaw17_awake  h Q = evFn PG fn_dunnagelaw17_awake tab_dunnagelaw17_awake [] (.one (.leaf .bool)) h Q := by kernel_rfl
theorem ok_dunnagelaw17_awake : okF PG fn_dunnagelaw17_awake tab_dunnagelaw17_awake = true := by kernel_rfl
theorem call_dunnagelaw17_awake {h : Mem} {Q : Bool → Mem → Prop} (hw' : wp_dunnagelaw17_awake  h Q) : CallF PG fn_dunnagelaw17_awake [] (.one (.leaf .bool)) h Q := callF_of PM ok_dunnagelaw17_awake (eq_dunnagelaw17_awake  h Q ▸ hw')

/- 21: (*dunnage/btree.Forest).Seek; loop 5: [at] -/
def tab_btree_Forest_Seek : Tab := ⟨[(5, ⟨[(10, .leaf (.int .i64))], [11, 12, 13, 23, 24, 25, 26, 27, 28, 29, 30, 31, 32, 33, 34, 35, 36, 37, 38, 39, 40, 41, 42, 43, 44, 45, 46, 47, 48, 49, 50, 51, 52, 53, 54, 55, 56, 57, 58, 59, 60, 61, 62, 63, 64, 65]⟩)], [], []⟩
def wp_btree_Forest_Seek (f : Option Addr) (root : Int) (key : ByteArray) (h : Mem) (Q : ByteArray → Int → Int → Int → Bool → Mem → Prop) : Prop :=
  New (Obj.cells #[Value.int IntKind.u64 0, Value.int IntKind.i64 0, Value.int IntKind.i64 0] ty_api_Ref) h fun (k1 : Nat) (h2 : Mem) =>
    New (Obj.cells #[Value.string (ByteArray.mk #[]), Value.int IntKind.u64 0, Value.int IntKind.i64 0, Value.int IntKind.i64 0] ty_api_Entry) h2 fun (k3 : Nat) (h4 : Mem) =>
      Br
        (match f with
        | some p6 => false
        | none => true)
        (St PG ty_api_Ref (Addr.mk k1 0 none) (Value.agg #[Value.int IntKind.u64 0, Value.int IntKind.i64 0, Value.int IntKind.i64 0]) h4 fun (h8 : Mem) =>
          Ld PG ty_api_Ref (Addr.mk k1 0 none) (Kd.one (Cmp.agg [Leaf.int IntKind.u64, Leaf.int IntKind.i64, Leaf.int IntKind.i64])) h8 fun (n9 n10 n11 : Int) =>
            Q (ByteArray.mk #[]) n9 n10 n11 false h8)
        (Deref f fun (p12 : Addr) =>
          Ld PG ty_ptr_arena_Arena p12 (Kd.one (Cmp.leaf Leaf.ptr)) h4 fun (q13 : Option Addr) =>
            CallF PG fn_arena_Arena_Root [Value.pointer q13, Value.int IntKind.i64 root] (Kd.one (Cmp.leaf (Leaf.int IntKind.i64))) h4 fun (n14 : Int) (h15 : Mem) =>
              ∃ (I16 : Int → Mem → Prop),
                ∃ (I17 : Int → Mem → Nat),
                  I16 n14 h15 ∧
                    ∀ (j18 : Fr) (n19 : Int) (h20 : Mem),
                      I16 n19 h20 →
                        Br (n19 != 0)
                          (CallF PG fn_btree_Forest_load [Value.pointer f, Value.int IntKind.i64 n19] (Kd.one (Cmp.agg [Leaf.sl, Leaf.sl, Leaf.sl])) h20 fun (s21 s22 s23 : Sl) (h24 : Mem) =>
                            New (Obj.cells #[Value.slice none 0 0, Value.slice none 0 0, Value.slice none 0 0] ty_btree_node) h24 fun (k25 : Nat) (h26 : Mem) =>
                              St PG ty_btree_node (Addr.mk k25 0 none)
                                (Value.agg #[Value.slice s21.a s21.len s21.cap, Value.slice s22.a s22.len s22.cap, Value.slice s23.a s23.len s23.cap]) h26 fun (h27 : Mem) =>
                                CallF PG fn_btree_leaf_find [Value.pointer (some (Addr.mk k25 0 none)), Value.string key] (Kd.tup [Cmp.leaf (Leaf.int IntKind.i64), Cmp.leaf Leaf.bool]) h27
                                  fun (n28 : Int) (b29 : Bool) (h30 : Mem) =>
                                  Ld PG ty_sl_string (Addr.mk k25 0 none) (Kd.one (Cmp.leaf Leaf.sl)) h30 fun (s31 : Sl) =>
                                    Br (decide (n28 < (↑s31.len : Int)))
                                      (Ld PG ty_sl_string (Addr.mk k25 0 none) (Kd.one (Cmp.leaf Leaf.sl)) h30 fun (s32 : Sl) =>
                                        Idx s32.a s32.len n28 fun (p33 : Addr) =>
                                          Ld PG ty_string (p33.add (n28.toNat * 1)) (Kd.one (Cmp.leaf Leaf.str)) h30 fun (t34 : ByteArray) =>
                                            Ld PG ty_sl_api_Ref ((Addr.mk k25 0 none).add 1) (Kd.one (Cmp.leaf Leaf.sl)) h30 fun (s35 : Sl) =>
                                              Idx s35.a s35.len n28 fun (p36 : Addr) =>
                                                Ld PG ty_api_Ref (p36.add (n28.toNat * 3)) (Kd.one (Cmp.agg [Leaf.int IntKind.u64, Leaf.int IntKind.i64, Leaf.int IntKind.i64])) h30
                                                  fun (n37 n38 n39 : Int) =>
                                                  St PG ty_api_Entry (Addr.mk k3 0 none)
                                                    (Value.agg #[Value.string t34, Value.int IntKind.u64 n37, Value.int IntKind.i64 n38, Value.int IntKind.i64 n39]) h30
                                                    fun (h40 : Mem) =>
                                                    Br (!b29)
                                                      (Ld PG ty_sl_int ((Addr.mk k25 0 none).add 2) (Kd.one (Cmp.leaf Leaf.sl)) h40 fun (s41 : Sl) =>
                                                        Br (decide ((↑s41.len : Int) > 0))
                                                          (Ld PG ty_sl_int ((Addr.mk k25 0 none).add 2) (Kd.one (Cmp.leaf Leaf.sl)) h40 fun (s42 : Sl) =>
                                                            Idx s42.a s42.len n28 fun (p43 : Addr) =>
                                                              Ld PG ty_int (p43.add (n28.toNat * 1)) (Kd.one (Cmp.leaf (Leaf.int IntKind.i64))) h40 fun (n44 : Int) =>
                                                                I16 n44 h40 ∧ I17 n44 h40 < I17 n19 h20)
                                                          (I16 0 h40 ∧ I17 0 h40 < I17 n19 h20))
                                                      (I16 0 h40 ∧ I17 0 h40 < I17 n19 h20))
                                      (Br (!b29)
                                        (Ld PG ty_sl_int ((Addr.mk k25 0 none).add 2) (Kd.one (Cmp.leaf Leaf.sl)) h30 fun (s45 : Sl) =>
                                          Br (decide ((↑s45.len : Int) > 0))
                                            (Ld PG ty_sl_int ((Addr.mk k25 0 none).add 2) (Kd.one (Cmp.leaf Leaf.sl)) h30 fun (s46 : Sl) =>
                                              Idx s46.a s46.len n28 fun (p47 : Addr) =>
                                                Ld PG ty_int (p47.add (n28.toNat * 1)) (Kd.one (Cmp.leaf (Leaf.int IntKind.i64))) h30 fun (n48 : Int) =>
                                                  I16 n48 h30 ∧ I17 n48 h30 < I17 n19 h20)
                                            (I16 0 h30 ∧ I17 0 h30 < I17 n19 h20))
                                        (I16 0 h30 ∧ I17 0 h30 < I17 n19 h20)))
                          (Ld PG ty_string (Addr.mk k3 0 none) (Kd.one (Cmp.leaf Leaf.str)) h20 fun (t49 : ByteArray) =>
                            Ld PG ty_api_Ref ((Addr.mk k3 0 none).add 1) (Kd.one (Cmp.agg [Leaf.int IntKind.u64, Leaf.int IntKind.i64, Leaf.int IntKind.i64])) h20
                              fun (n50 n51 n52 : Int) =>
                              Ld PG ty_string (Addr.mk k3 0 none) (Kd.one (Cmp.leaf Leaf.str)) h20 fun (t53 : ByteArray) =>
                                St PG ty_api_Ref (Addr.mk k1 0 none) (Value.agg #[Value.int IntKind.u64 n50, Value.int IntKind.i64 n51, Value.int IntKind.i64 n52]) h20
                                  fun (h54 : Mem) =>
                                  (Ld PG ty_string (Addr.mk k3 0 none) (Kd.one (Cmp.leaf Leaf.str)) h54 fun (t55 : ByteArray) => Value.string t55 = Value.string t53) ∧
                                    Ld PG ty_api_Ref (Addr.mk k1 0 none) (Kd.one (Cmp.agg [Leaf.int IntKind.u64, Leaf.int IntKind.i64, Leaf.int IntKind.i64])) h54
                                      fun (n56 n57 n58 : Int) => Q t49 n56 n57 n58 (!sEq t53 (ByteArray.mk #[])) h54))
theorem eq_btree_Forest_Seek (f : Option Addr) (root : Int) (key : ByteArray) (h : Mem) (Q : ByteArray → Int → Int → Int → Bool → Mem → Prop) : wp_btree_Forest_Seek f root key h Q = evFn PG fn_btree_Forest_Seek tab_btree_Forest_Seek [.pointer f, .int .i64 root, .string key] (.tup [(.leaf .str), (.agg [(.int .u64), (.int .i64), (.int .i64)]), (.leaf .bool)]) h Q := by kernel_rfl
theorem ok_btree_Forest_Seek : okF PG fn_btree_Forest_Seek tab_btree_Forest_Seek = true := by kernel_rfl
theorem call_btree_Forest_Seek {f : Option Addr} {root : Int} {key : ByteArray} {h : Mem} {Q : ByteArray → Int → Int → Int → Bool → Mem → Prop} (hw' : wp_btree_Forest_Seek f root key h Q) : CallF PG fn_btree_Forest_Seek [.pointer f, .int .i64 root, .string key] (.tup [(.leaf .str), (.agg [(.int .u64), (.int .i64), (.int .i64)]), (.leaf .bool)]) h Q := callF_of PM ok_btree_Forest_Seek (eq_btree_Forest_Seek f root key h Q ▸ hw')

/- 22: (*dunnage/btree.Forest).Back; loop 5: [at] -/
def tab_btree_Forest_Back : Tab := ⟨[(5, ⟨[(10, .leaf (.int .i64))], [6, 8, 11, 12, 13, 23, 24, 25, 26, 27, 28, 29, 30, 31, 32, 33, 34, 35, 36, 37, 38, 39, 40, 41, 42, 43, 44, 45, 46, 47, 48, 49, 50, 51, 52, 53, 54, 55, 56, 57, 58, 59, 60, 61, 62, 63, 64, 65, 66, 67]⟩)], [], []⟩
def wp_btree_Forest_Back (f : Option Addr) (root : Int) (key : ByteArray) (h : Mem) (Q : ByteArray → Int → Int → Int → Bool → Mem → Prop) : Prop :=
  New (Obj.cells #[Value.int IntKind.u64 0, Value.int IntKind.i64 0, Value.int IntKind.i64 0] ty_api_Ref) h fun (k1 : Nat) (h2 : Mem) =>
    New (Obj.cells #[Value.string (ByteArray.mk #[]), Value.int IntKind.u64 0, Value.int IntKind.i64 0, Value.int IntKind.i64 0] ty_api_Entry) h2 fun (k3 : Nat) (h4 : Mem) =>
      Br
        (match f with
        | some p6 => false
        | none => true)
        (St PG ty_api_Ref (Addr.mk k1 0 none) (Value.agg #[Value.int IntKind.u64 0, Value.int IntKind.i64 0, Value.int IntKind.i64 0]) h4 fun (h8 : Mem) =>
          Ld PG ty_api_Ref (Addr.mk k1 0 none) (Kd.one (Cmp.agg [Leaf.int IntKind.u64, Leaf.int IntKind.i64, Leaf.int IntKind.i64])) h8 fun (n9 n10 n11 : Int) =>
            Q (ByteArray.mk #[]) n9 n10 n11 false h8)
        (Deref f fun (p12 : Addr) =>
          Ld PG ty_ptr_arena_Arena p12 (Kd.one (Cmp.leaf Leaf.ptr)) h4 fun (q13 : Option Addr) =>
            CallF PG fn_arena_Arena_Root [Value.pointer q13, Value.int IntKind.i64 root] (Kd.one (Cmp.leaf (Leaf.int IntKind.i64))) h4 fun (n14 : Int) (h15 : Mem) =>
              ∃ (I16 : Int → Mem → Prop),
                ∃ (I17 : Int → Mem → Nat),
                  I16 n14 h15 ∧
                    ∀ (j18 : Fr) (n19 : Int) (h20 : Mem),
                      I16 n19 h20 →
                        Br (n19 != 0)
                          (CallF PG fn_btree_Forest_load [Value.pointer f, Value.int IntKind.i64 n19] (Kd.one (Cmp.agg [Leaf.sl, Leaf.sl, Leaf.sl])) h20 fun (s21 s22 s23 : Sl) (h24 : Mem) =>
                            New (Obj.cells #[Value.slice none 0 0, Value.slice none 0 0, Value.slice none 0 0] ty_btree_node) h24 fun (k25 : Nat) (h26 : Mem) =>
                              St PG ty_btree_node (Addr.mk k25 0 none)
                                (Value.agg #[Value.slice s21.a s21.len s21.cap, Value.slice s22.a s22.len s22.cap, Value.slice s23.a s23.len s23.cap]) h26 fun (h27 : Mem) =>
                                CallF PG fn_btree_leaf_find [Value.pointer (some (Addr.mk k25 0 none)), Value.string key] (Kd.tup [Cmp.leaf (Leaf.int IntKind.i64), Cmp.leaf Leaf.bool]) h27
                                  fun (n28 : Int) (b29 : Bool) (h30 : Mem) =>
                                  Br b29
                                    (Ld PG ty_sl_api_Ref ((Addr.mk k25 0 none).add 1) (Kd.one (Cmp.leaf Leaf.sl)) h30 fun (s31 : Sl) =>
                                      Idx s31.a s31.len n28 fun (p32 : Addr) =>
                                        Ld PG ty_api_Ref (p32.add (n28.toNat * 3)) (Kd.one (Cmp.agg [Leaf.int IntKind.u64, Leaf.int IntKind.i64, Leaf.int IntKind.i64])) h30
                                          fun (n33 n34 n35 : Int) =>
                                          St PG ty_api_Ref (Addr.mk k1 0 none) (Value.agg #[Value.int IntKind.u64 n33, Value.int IntKind.i64 n34, Value.int IntKind.i64 n35]) h30
                                            fun (h36 : Mem) =>
                                            Ld PG ty_api_Ref (Addr.mk k1 0 none) (Kd.one (Cmp.agg [Leaf.int IntKind.u64, Leaf.int IntKind.i64, Leaf.int IntKind.i64])) h36
                                              fun (n37 n38 n39 : Int) => Q key n37 n38 n39 true h36)
                                    (Br (decide (n28 > 0))
                                      (Ld PG ty_sl_string (Addr.mk k25 0 none) (Kd.one (Cmp.leaf Leaf.sl)) h30 fun (s40 : Sl) =>
                                        Idx s40.a s40.len (IntKind.i64.wrap (n28 - 1)) fun (p41 : Addr) =>
                                          Ld PG ty_string (p41.add ((IntKind.i64.wrap (n28 - 1)).toNat * 1)) (Kd.one (Cmp.leaf Leaf.str)) h30 fun (t42 : ByteArray) =>
                                            Ld PG ty_sl_api_Ref ((Addr.mk k25 0 none).add 1) (Kd.one (Cmp.leaf Leaf.sl)) h30 fun (s43 : Sl) =>
                                              Idx s43.a s43.len (IntKind.i64.wrap (n28 - 1)) fun (p44 : Addr) =>
                                                Ld PG ty_api_Ref (p44.add ((IntKind.i64.wrap (n28 - 1)).toNat * 3))
                                                  (Kd.one (Cmp.agg [Leaf.int IntKind.u64, Leaf.int IntKind.i64, Leaf.int IntKind.i64])) h30 fun (n45 n46 n47 : Int) =>
                                                  St PG ty_api_Entry (Addr.mk k3 0 none)
                                                    (Value.agg #[Value.string t42, Value.int IntKind.u64 n45, Value.int IntKind.i64 n46, Value.int IntKind.i64 n47]) h30
                                                    fun (h48 : Mem) =>
                                                    Ld PG ty_sl_int ((Addr.mk k25 0 none).add 2) (Kd.one (Cmp.leaf Leaf.sl)) h48 fun (s49 : Sl) =>
                                                      Br (decide ((↑s49.len : Int) > 0))
                                                        (Ld PG ty_sl_int ((Addr.mk k25 0 none).add 2) (Kd.one (Cmp.leaf Leaf.sl)) h48 fun (s50 : Sl) =>
                                                          Idx s50.a s50.len n28 fun (p51 : Addr) =>
                                                            Ld PG ty_int (p51.add (n28.toNat * 1)) (Kd.one (Cmp.leaf (Leaf.int IntKind.i64))) h48 fun (n52 : Int) =>
                                                              I16 n52 h48 ∧ I17 n52 h48 < I17 n19 h20)
                                                        (I16 0 h48 ∧ I17 0 h48 < I17 n19 h20))
                                      (Ld PG ty_sl_int ((Addr.mk k25 0 none).add 2) (Kd.one (Cmp.leaf Leaf.sl)) h30 fun (s53 : Sl) =>
                                        Br (decide ((↑s53.len : Int) > 0))
                                          (Ld PG ty_sl_int ((Addr.mk k25 0 none).add 2) (Kd.one (Cmp.leaf Leaf.sl)) h30 fun (s54 : Sl) =>
                                            Idx s54.a s54.len n28 fun (p55 : Addr) =>
                                              Ld PG ty_int (p55.add (n28.toNat * 1)) (Kd.one (Cmp.leaf (Leaf.int IntKind.i64))) h30 fun (n56 : Int) =>
                                                I16 n56 h30 ∧ I17 n56 h30 < I17 n19 h20)
                                          (I16 0 h30 ∧ I17 0 h30 < I17 n19 h20))))
                          (Ld PG ty_string (Addr.mk k3 0 none) (Kd.one (Cmp.leaf Leaf.str)) h20 fun (t57 : ByteArray) =>
                            Ld PG ty_api_Ref ((Addr.mk k3 0 none).add 1) (Kd.one (Cmp.agg [Leaf.int IntKind.u64, Leaf.int IntKind.i64, Leaf.int IntKind.i64])) h20
                              fun (n58 n59 n60 : Int) =>
                              Ld PG ty_string (Addr.mk k3 0 none) (Kd.one (Cmp.leaf Leaf.str)) h20 fun (t61 : ByteArray) =>
                                St PG ty_api_Ref (Addr.mk k1 0 none) (Value.agg #[Value.int IntKind.u64 n58, Value.int IntKind.i64 n59, Value.int IntKind.i64 n60]) h20
                                  fun (h62 : Mem) =>
                                  (Ld PG ty_string (Addr.mk k3 0 none) (Kd.one (Cmp.leaf Leaf.str)) h62 fun (t63 : ByteArray) => Value.string t63 = Value.string t61) ∧
                                    Ld PG ty_api_Ref (Addr.mk k1 0 none) (Kd.one (Cmp.agg [Leaf.int IntKind.u64, Leaf.int IntKind.i64, Leaf.int IntKind.i64])) h62
                                      fun (n64 n65 n66 : Int) => Q t57 n64 n65 n66 (!sEq t61 (ByteArray.mk #[])) h62))
theorem eq_btree_Forest_Back (f : Option Addr) (root : Int) (key : ByteArray) (h : Mem) (Q : ByteArray → Int → Int → Int → Bool → Mem → Prop) : wp_btree_Forest_Back f root key h Q = evFn PG fn_btree_Forest_Back tab_btree_Forest_Back [.pointer f, .int .i64 root, .string key] (.tup [(.leaf .str), (.agg [(.int .u64), (.int .i64), (.int .i64)]), (.leaf .bool)]) h Q := by kernel_rfl
theorem ok_btree_Forest_Back : okF PG fn_btree_Forest_Back tab_btree_Forest_Back = true := by kernel_rfl
theorem call_btree_Forest_Back {f : Option Addr} {root : Int} {key : ByteArray} {h : Mem} {Q : ByteArray → Int → Int → Int → Bool → Mem → Prop} (hw' : wp_btree_Forest_Back f root key h Q) : CallF PG fn_btree_Forest_Back [.pointer f, .int .i64 root, .string key] (.tup [(.leaf .str), (.agg [(.int .u64), (.int .i64), (.int .i64)]), (.leaf .bool)]) h Q := callF_of PM ok_btree_Forest_Back (eq_btree_Forest_Back f root key h Q ▸ hw')

/- 23: (*dunnage/btree.Forest).Get -/
def tab_btree_Forest_Get : Tab := ⟨[], [], []⟩
def wp_btree_Forest_Get (f : Option Addr) (root : Int) (key : ByteArray) (h : Mem) (Q : Int → Int → Int → Bool → Mem → Prop) : Prop :=
  New (Obj.cells #[Value.int IntKind.u64 0, Value.int IntKind.i64 0, Value.int IntKind.i64 0] ty_api_Ref) h fun (k1 : Nat) (h2 : Mem) =>
    CallF PG fn_btree_Forest_Seek [Value.pointer f, Value.int IntKind.i64 root, Value.string key]
      (Kd.tup [Cmp.leaf Leaf.str, Cmp.agg [Leaf.int IntKind.u64, Leaf.int IntKind.i64, Leaf.int IntKind.i64], Cmp.leaf Leaf.bool]) h2
      fun (t3 : ByteArray) (n4 n5 n6 : Int) (b7 : Bool) (h8 : Mem) =>
      New (Obj.cells #[Value.int IntKind.u64 0, Value.int IntKind.i64 0, Value.int IntKind.i64 0] ty_api_Ref) h8 fun (k9 : Nat) (h10 : Mem) =>
        St PG ty_api_Ref (Addr.mk k9 0 none) (Value.agg #[Value.int IntKind.u64 n4, Value.int IntKind.i64 n5, Value.int IntKind.i64 n6]) h10 fun (h11 : Mem) =>
          Br (!b7)
            (St PG ty_api_Ref (Addr.mk k1 0 none) (Value.agg #[Value.int IntKind.u64 0, Value.int IntKind.i64 0, Value.int IntKind.i64 0]) h11 fun (h12 : Mem) =>
              Ld PG ty_api_Ref (Addr.mk k1 0 none) (Kd.one (Cmp.agg [Leaf.int IntKind.u64, Leaf.int IntKind.i64, Leaf.int IntKind.i64])) h12 fun (n13 n14 n15 : Int) =>
                Q n13 n14 n15 false h12)
            (Br (!sEq t3 key)
              (St PG ty_api_Ref (Addr.mk k1 0 none) (Value.agg #[Value.int IntKind.u64 0, Value.int IntKind.i64 0, Value.int IntKind.i64 0]) h11 fun (h16 : Mem) =>
                Ld PG ty_api_Ref (Addr.mk k1 0 none) (Kd.one (Cmp.agg [Leaf.int IntKind.u64, Leaf.int IntKind.i64, Leaf.int IntKind.i64])) h16 fun (n17 n18 n19 : Int) =>
                  Q n17 n18 n19 false h16)
              (Ld PG ty_api_Ref (Addr.mk k9 0 none) (Kd.one (Cmp.agg [Leaf.int IntKind.u64, Leaf.int IntKind.i64, Leaf.int IntKind.i64])) h11 fun (n20 n21 n22 : Int) =>
                St PG ty_api_Ref (Addr.mk k1 0 none) (Value.agg #[Value.int IntKind.u64 n20, Value.int IntKind.i64 n21, Value.int IntKind.i64 n22]) h11 fun (h23 : Mem) =>
                  Ld PG ty_api_Ref (Addr.mk k1 0 none) (Kd.one (Cmp.agg [Leaf.int IntKind.u64, Leaf.int IntKind.i64, Leaf.int IntKind.i64])) h23 fun (n24 n25 n26 : Int) =>
                    Q n24 n25 n26 true h23))
theorem eq_btree_Forest_Get (f : Option Addr) (root : Int) (key : ByteArray) (h : Mem) (Q : Int → Int → Int → Bool → Mem → Prop) : wp_btree_Forest_Get f root key h Q = evFn PG fn_btree_Forest_Get tab_btree_Forest_Get [.pointer f, .int .i64 root, .string key] (.tup [(.agg [(.int .u64), (.int .i64), (.int .i64)]), (.leaf .bool)]) h Q := by kernel_rfl
theorem ok_btree_Forest_Get : okF PG fn_btree_Forest_Get tab_btree_Forest_Get = true := by kernel_rfl
theorem call_btree_Forest_Get {f : Option Addr} {root : Int} {key : ByteArray} {h : Mem} {Q : Int → Int → Int → Bool → Mem → Prop} (hw' : wp_btree_Forest_Get f root key h Q) : CallF PG fn_btree_Forest_Get [.pointer f, .int .i64 root, .string key] (.tup [(.agg [(.int .u64), (.int .i64), (.int .i64)]), (.leaf .bool)]) h Q := callF_of PM ok_btree_Forest_Get (eq_btree_Forest_Get f root key h Q ▸ hw')

/- 25: dunnage/dunnagelaw17.told; range 8: [, ] -/
def tab_dunnagelaw17_told : Tab := ⟨[(8, ⟨[(16, .leaf .str), (17, .agg [.int .u64, .int .i64, .int .i64])], []⟩)], [], []⟩
def wp_dunnagelaw17_told (f : Option Addr) (root : Int) (h : Mem) (Q : Sl → Bool → Mem → Prop) : Prop :=
  CallF PG fn_btree_Forest_All [Value.pointer f, Value.int IntKind.i64 root] (Kd.one (Cmp.leaf Leaf.raw)) h fun (v1 : Value) (h2 : Mem) =>
    NilF v1 fun (b3 : Bool) =>
      Br b3 (Q (Sl.mk none 0 0) false h2)
        (New (Obj.cells #[Value.slice none 0 0] ty_sl_api_Entry) h2 fun (k4 : Nat) (h5 : Mem) =>
          RangeFn PG v1 h5 [Cmp.leaf Leaf.str, Cmp.agg [Leaf.int IntKind.u64, Leaf.int IntKind.i64, Leaf.int IntKind.i64]]
            (fun (t6 : ByteArray) (n7 n8 n9 : Int) (h10 : Mem) (I11 : Mem → (Mem → Prop) → Prop) (I12 I13 I14 : Mem → Prop) =>
              New (Obj.cells #[Value.int IntKind.u64 0, Value.int IntKind.i64 0, Value.int IntKind.i64 0] ty_api_Ref) h10 fun (k15 : Nat) (h16 : Mem) =>
                St PG ty_api_Ref (Addr.mk k15 0 none) (Value.agg #[Value.int IntKind.u64 n7, Value.int IntKind.i64 n8, Value.int IntKind.i64 n9]) h16 fun (h17 : Mem) =>
                  I11 h17 fun (h18 : Mem) =>
                    Ld PG ty_sl_api_Entry (Addr.mk k4 0 none) (Kd.one (Cmp.leaf Leaf.sl)) h18 fun (s19 : Sl) =>
                      Ld PG ty_api_Ref (Addr.mk k15 0 none) (Kd.one (Cmp.agg [Leaf.int IntKind.u64, Leaf.int IntKind.i64, Leaf.int IntKind.i64])) h18 fun (n20 n21 n22 : Int) =>
                        New (Obj.cells #[Value.string t6, Value.int IntKind.u64 n20, Value.int IntKind.i64 n21, Value.int IntKind.i64 n22] ty_api_Entry) h18 fun (k23 : Nat) (h24 : Mem) =>
                          PrimT PG (Builtin.append_ #[ty_sl_api_Entry, ty_sl_api_Entry] ty_sl_api_Entry #[Value.slice s19.a s19.len s19.cap, Value.slice (some (Addr.mk k23 0 none)) 1 1]) (Kd.one (Cmp.leaf Leaf.sl))
                            h24 fun (s25 : Sl) (h26 : Mem) => St PG ty_sl_api_Entry (Addr.mk k4 0 none) (Value.slice s25.a s25.len s25.cap) h26 fun (h27 : Mem) => I12 h27)
            (fun (h28 : Mem) =>
              Ld PG ty_sl_api_Entry (Addr.mk k4 0 none) (Kd.one (Cmp.leaf Leaf.sl)) h28 fun (s29 : Sl) =>
                h28[Array.size h5]? = some (Obj.deferred (some [])) ∧ Q (Sl.mk s29.a s29.len s29.cap) true (Array.setIfInBounds h28 (Array.size h5) (Obj.deferred none)))
            (fun (h32 : Mem) => False)
            (fun (h33 : Mem) => h33[Array.size h5]? = some (Obj.deferred (some [])) ∧ Q (Sl.mk none 0 0) false (Array.setIfInBounds h33 (Array.size h5) (Obj.deferred none))) 1000000)
theorem eq_dunnagelaw17_told (f : Option Addr) (root : Int) (h : Mem) (Q : Sl → Bool → Mem → Prop) : wp_dunnagelaw17_told f root h Q = evFn PG fn_dunnagelaw17_told tab_dunnagelaw17_told [.pointer f, .int .i64 root] (.tup [(.leaf .sl), (.leaf .bool)]) h Q := by kernel_rfl
theorem ok_dunnagelaw17_told : okF PG fn_dunnagelaw17_told tab_dunnagelaw17_told = true := by kernel_rfl
theorem call_dunnagelaw17_told {f : Option Addr} {root : Int} {h : Mem} {Q : Sl → Bool → Mem → Prop} (hw' : wp_dunnagelaw17_told f root h Q) : CallF PG fn_dunnagelaw17_told [.pointer f, .int .i64 root] (.tup [(.leaf .sl), (.leaf .bool)]) h Q := callF_of PM ok_dunnagelaw17_told (eq_dunnagelaw17_told f root h Q ▸ hw')

/- 27: (*dunnage/btree.Forest).Put -/
def tab_btree_Forest_Put : Tab := ⟨[], [], []⟩
def wp_btree_Forest_Put (f : Option Addr) (root : Int) (key : ByteArray) (r_0 : Int) (r_1 : Int) (r_2 : Int) (h : Mem) (Q : Int → Mem → Prop) : Prop :=
  New (Obj.cells #[Value.pointer f] ty_ptr_btree_Forest) h fun (k1 : Nat) (h2 : Mem) =>
    New (Obj.cells #[Value.string key] ty_string) h2 fun (k3 : Nat) (h4 : Mem) =>
      New (Obj.cells #[Value.int IntKind.u64 r_0, Value.int IntKind.i64 r_1, Value.int IntKind.i64 r_2] ty_api_Ref) h4 fun (k5 : Nat) (h6 : Mem) =>
        Ld PG ty_ptr_btree_Forest (Addr.mk k1 0 none) (Kd.one (Cmp.leaf Leaf.ptr)) h6 fun (q7 : Option Addr) =>
          Br
            (match q7 with
            | some p9 => false
            | none => true)
            (Q 2 h6)
            (CallF PG fn_btree_version [Value.int IntKind.i64 root] (Kd.one (Cmp.leaf Leaf.bool)) h6 fun (b11 : Bool) (h12 : Mem) =>
              Br (!b11) (Q 1 h12)
                (Ld PG ty_string (Addr.mk k3 0 none) (Kd.one (Cmp.leaf Leaf.str)) h12 fun (t13 : ByteArray) =>
                  CallF PG fn_keys_May [Value.string t13] (Kd.one (Cmp.leaf Leaf.bool)) h12 fun (b14 : Bool) (h15 : Mem) =>
                    Br (!b14) (Q 1 h15)
                      (Ld PG ty_api_Ref (Addr.mk k5 0 none) (Kd.one (Cmp.agg [Leaf.int IntKind.u64, Leaf.int IntKind.i64, Leaf.int IntKind.i64])) h15 fun (n16 n17 n18 : Int) =>
                        CallF PG fn_btree_points [Value.agg #[Value.int IntKind.u64 n16, Value.int IntKind.i64 n17, Value.int IntKind.i64 n18]] (Kd.one (Cmp.leaf Leaf.bool)) h15
                          fun (b19 : Bool) (h20 : Mem) =>
                          Br (!b19) (Q 1 h20)
                            (Ld PG ty_ptr_btree_Forest (Addr.mk k1 0 none) (Kd.one (Cmp.leaf Leaf.ptr)) h20 fun (q21 : Option Addr) =>
                              CallF PG fn_btree_Forest_twice 
                                [Value.pointer q21, Value.int IntKind.i64 root,
                                  Value.func (Fn.func fn_btree_Forest_Put_1) #[]
                                    #[Value.pointer (some (Addr.mk k1 0 none)), Value.pointer (some (Addr.mk k3 0 none)), Value.pointer (some (Addr.mk k5 0 none))]]
                                (Kd.one (Cmp.leaf (Leaf.int IntKind.i64))) h20 fun (n22 : Int) (h23 : Mem) => Q n22 h23))))
theorem eq_btree_Forest_Put (f : Option Addr) (root : Int) (key : ByteArray) (r_0 : Int) (r_1 : Int) (r_2 : Int) (h : Mem) (Q : Int → Mem → Prop) : wp_btree_Forest_Put f root key r_0 r_1 r_2 h Q = evFn PG fn_btree_Forest_Put tab_btree_Forest_Put [.pointer f, .int .i64 root, .string key, .agg #[.int .u64 r_0, .int .i64 r_1, .int .i64 r_2]] (.one (.leaf (.int .i64))) h Q := by kernel_rfl
theorem ok_btree_Forest_Put : okF PG fn_btree_Forest_Put tab_btree_Forest_Put = true := by kernel_rfl
theorem call_btree_Forest_Put {f : Option Addr} {root : Int} {key : ByteArray} {r_0 : Int} {r_1 : Int} {r_2 : Int} {h : Mem} {Q : Int → Mem → Prop} (hw' : wp_btree_Forest_Put f root key r_0 r_1 r_2 h Q) : CallF PG fn_btree_Forest_Put [.pointer f, .int .i64 root, .string key, .agg #[.int .u64 r_0, .int .i64 r_1, .int .i64 r_2]] (.one (.leaf (.int .i64))) h Q := callF_of PM ok_btree_Forest_Put (eq_btree_Forest_Put f root key r_0 r_1 r_2 h Q ▸ hw')

/- 28: (*dunnage/btree.Forest).Len; range 3: [, ] -/
def tab_btree_Forest_Len : Tab := ⟨[(3, ⟨[(9, .leaf .str), (10, .agg [.int .u64, .int .i64, .int .i64])], []⟩)], [], []⟩
def wp_btree_Forest_Len (f : Option Addr) (root : Int) (h : Mem) (Q : Int → Mem → Prop) : Prop :=
  New (Obj.cells #[Value.int IntKind.i64 0] ty_int) h fun (k1 : Nat) (h2 : Mem) =>
    St PG ty_int (Addr.mk k1 0 none) (Value.int IntKind.i64 0) h2 fun (h3 : Mem) =>
      CallF PG fn_btree_Forest_All [Value.pointer f, Value.int IntKind.i64 root] (Kd.one (Cmp.leaf Leaf.raw)) h3 fun (v4 : Value) (h5 : Mem) =>
        RangeFn PG v4 h5 [Cmp.leaf Leaf.str, Cmp.agg [Leaf.int IntKind.u64, Leaf.int IntKind.i64, Leaf.int IntKind.i64]]
          (fun (t6 : ByteArray) (n7 n8 n9 : Int) (h10 : Mem) (I11 : Mem → (Mem → Prop) → Prop) (I12 I13 I14 : Mem → Prop) =>
            I11 h10 fun (h15 : Mem) =>
              Ld PG ty_int (Addr.mk k1 0 none) (Kd.one (Cmp.leaf (Leaf.int IntKind.i64))) h15 fun (n16 : Int) =>
                St PG ty_int (Addr.mk k1 0 none) (Value.int IntKind.i64 (IntKind.i64.wrap (n16 + 1))) h15 fun (h17 : Mem) => I12 h17)
          (fun (h18 : Mem) =>
            Ld PG ty_int (Addr.mk k1 0 none) (Kd.one (Cmp.leaf (Leaf.int IntKind.i64))) h18 fun (n19 : Int) =>
              h18[Array.size h5]? = some (Obj.deferred (some [])) ∧ Q n19 (Array.setIfInBounds h18 (Array.size h5) (Obj.deferred none)))
          (fun (h22 : Mem) => False) (fun (h23 : Mem) => h23[Array.size h5]? = some (Obj.deferred (some [])) ∧ Q 0 (Array.setIfInBounds h23 (Array.size h5) (Obj.deferred none)))
          1000000
theorem eq_btree_Forest_Len (f : Option Addr) (root : Int) (h : Mem) (Q : Int → Mem → Prop) : wp_btree_Forest_Len f root h Q = evFn PG fn_btree_Forest_Len tab_btree_Forest_Len [.pointer f, .int .i64 root] (.one (.leaf (.int .i64))) h Q := by kernel_rfl
theorem ok_btree_Forest_Len : okF PG fn_btree_Forest_Len tab_btree_Forest_Len = true := by kernel_rfl
theorem call_btree_Forest_Len {f : Option Addr} {root : Int} {h : Mem} {Q : Int → Mem → Prop} (hw' : wp_btree_Forest_Len f root h Q) : CallF PG fn_btree_Forest_Len [.pointer f, .int .i64 root] (.one (.leaf (.int .i64))) h Q := callF_of PM ok_btree_Forest_Len (eq_btree_Forest_Len f root h Q ▸ hw')

/- 51: dunnage/btree.New -/
def tab_btree_New : Tab := ⟨[], [], []⟩
def wp_btree_New (words : Int) (h : Mem) (Q : Option Addr → Int → Mem → Prop) : Prop :=
  CallF PG fn_arena_New [Value.int IntKind.i64 words] (Kd.tup [Cmp.leaf Leaf.ptr, Cmp.leaf (Leaf.int IntKind.i64)]) h fun (q1 : Option Addr) (n2 : Int) (h3 : Mem) =>
    Br (n2 != 0) (Q none n2 h3) (New (Obj.cells #[Value.pointer q1] ty_btree_Forest) h3 fun (k4 : Nat) (h5 : Mem) => Q (some (Addr.mk k4 0 none)) 0 h5)
theorem eq_btree_New (words : Int) (h : Mem) (Q : Option Addr → Int → Mem → Prop) : wp_btree_New words h Q = evFn PG fn_btree_New tab_btree_New [.int .i64 words] (.tup [(.leaf .ptr), (.leaf (.int .i64))]) h Q := by kernel_rfl
theorem ok_btree_New : okF PG fn_btree_New tab_btree_New = true := by kernel_rfl
theorem call_btree_New {words : Int} {h : Mem} {Q : Option Addr → Int → Mem → Prop} (hw' : wp_btree_New words h Q) : CallF PG fn_btree_New [.int .i64 words] (.tup [(.leaf .ptr), (.leaf (.int .i64))]) h Q := callF_of PM ok_btree_New (eq_btree_New words h Q ▸ hw')

/- 59: (*dunnage/btree.Forest).Used -/
def tab_btree_Forest_Used : Tab := ⟨[], [], []⟩
def wp_btree_Forest_Used (f : Option Addr) (h : Mem) (Q : Int → Mem → Prop) : Prop :=
  Br
    (match f with
    | some p2 => false
    | none => true)
    (Q 0 h)
    (Deref f fun (p4 : Addr) =>
      Ld PG ty_ptr_arena_Arena p4 (Kd.one (Cmp.leaf Leaf.ptr)) h fun (q5 : Option Addr) =>
        CallF PG fn_arena_Arena_Used [Value.pointer q5] (Kd.one (Cmp.leaf (Leaf.int IntKind.i64))) h fun (n6 : Int) (h7 : Mem) => Q n6 h7)
theorem eq_btree_Forest_Used (f : Option Addr) (h : Mem) (Q : Int → Mem → Prop) : wp_btree_Forest_Used f h Q = evFn PG fn_btree_Forest_Used tab_btree_Forest_Used [.pointer f] (.one (.leaf (.int .i64))) h Q := by kernel_rfl
theorem ok_btree_Forest_Used : okF PG fn_btree_Forest_Used tab_btree_Forest_Used = true := by kernel_rfl
theorem call_btree_Forest_Used {f : Option Addr} {h : Mem} {Q : Int → Mem → Prop} (hw' : wp_btree_Forest_Used f h Q) : CallF PG fn_btree_Forest_Used [.pointer f] (.one (.leaf (.int .i64))) h Q := callF_of PM ok_btree_Forest_Used (eq_btree_Forest_Used f h Q ▸ hw')

/- 62: (*dunnage/btree.Forest).load -/
def tab_btree_Forest_load : Tab := ⟨[], [], []⟩
def wp_btree_Forest_load (f : Option Addr) (at' : Int) (h : Mem) (Q : Sl → Sl → Sl → Mem → Prop) : Prop :=
  New (Obj.cells #[Value.slice none 0 0, Value.slice none 0 0, Value.slice none 0 0] ty_btree_node) h fun (k1 : Nat) (h2 : Mem) =>
    Deref f fun (p3 : Addr) =>
      Ld PG ty_ptr_arena_Arena p3 (Kd.one (Cmp.leaf Leaf.ptr)) h2 fun (q4 : Option Addr) =>
        CallF PG fn_arena_Arena_At [Value.pointer q4, Value.int IntKind.i64 at'] (Kd.tup [Cmp.agg [Leaf.int IntKind.i64, Leaf.sl, Leaf.sl], Cmp.leaf (Leaf.int IntKind.i64)]) h2
          fun (n5 : Int) (s6 s7 : Sl) (n8 : Int) (h9 : Mem) =>
          New (Obj.cells #[Value.int IntKind.i64 0, Value.slice none 0 0, Value.slice none 0 0] ty_api_Object) h9 fun (k10 : Nat) (h11 : Mem) =>
            St PG ty_api_Object (Addr.mk k10 0 none) (Value.agg #[Value.int IntKind.i64 n5, Value.slice s6.a s6.len s6.cap, Value.slice s7.a s7.len s7.cap]) h11 fun (h12 : Mem) =>
              Ld PG ty_api_Object (Addr.mk k10 0 none) (Kd.one (Cmp.agg [Leaf.int IntKind.i64, Leaf.sl, Leaf.sl])) h12 fun (n13 : Int) (s14 s15 : Sl) =>
                CallF PG fn_btree_read [Value.agg #[Value.int IntKind.i64 n13, Value.slice s14.a s14.len s14.cap, Value.slice s15.a s15.len s15.cap]]
                  (Kd.tup [Cmp.agg [Leaf.sl, Leaf.sl, Leaf.sl], Cmp.leaf Leaf.sl]) h12 fun (s16 s17 s18 s19 : Sl) (h20 : Mem) =>
                  New (Obj.cells #[Value.slice none 0 0, Value.slice none 0 0, Value.slice none 0 0] ty_btree_node) h20 fun (k21 : Nat) (h22 : Mem) =>
                    St PG ty_btree_node (Addr.mk k21 0 none) (Value.agg #[Value.slice s16.a s16.len s16.cap, Value.slice s17.a s17.len s17.cap, Value.slice s18.a s18.len s18.cap]) h22
                      fun (h23 : Mem) =>
                      Ld PG ty_btree_node (Addr.mk k21 0 none) (Kd.one (Cmp.agg [Leaf.sl, Leaf.sl, Leaf.sl])) h23 fun (s24 s25 s26 : Sl) =>
                        St PG ty_btree_node (Addr.mk k1 0 none) (Value.agg #[Value.slice s24.a s24.len s24.cap, Value.slice s25.a s25.len s25.cap, Value.slice s26.a s26.len s26.cap])
                          h23 fun (h27 : Mem) =>
                          Ld PG ty_btree_node (Addr.mk k1 0 none) (Kd.one (Cmp.agg [Leaf.sl, Leaf.sl, Leaf.sl])) h27 fun (s28 s29 s30 : Sl) =>
                            Q (Sl.mk s28.a s28.len s28.cap) (Sl.mk s29.a s29.len s29.cap) (Sl.mk s30.a s30.len s30.cap) h27
theorem eq_btree_Forest_load (f : Option Addr) (at' : Int) (h : Mem) (Q : Sl → Sl → Sl → Mem → Prop) : wp_btree_Forest_load f at' h Q = evFn PG fn_btree_Forest_load tab_btree_Forest_load [.pointer f, .int .i64 at'] (.one (.agg [.sl, .sl, .sl])) h Q := by kernel_rfl
theorem ok_btree_Forest_load : okF PG fn_btree_Forest_load tab_btree_Forest_load = true := by kernel_rfl
theorem call_btree_Forest_load {f : Option Addr} {at' : Int} {h : Mem} {Q : Sl → Sl → Sl → Mem → Prop} (hw' : wp_btree_Forest_load f at' h Q) : CallF PG fn_btree_Forest_load [.pointer f, .int .i64 at'] (.one (.agg [.sl, .sl, .sl])) h Q := callF_of PM ok_btree_Forest_load (eq_btree_Forest_load f at' h Q ▸ hw')

/- 63: (*dunnage/btree.leaf).find -/
def tab_btree_leaf_find : Tab := ⟨[], [], []⟩
def wp_btree_leaf_find (l : Option Addr) (key : ByteArray) (h : Mem) (Q : Int → Bool → Mem → Prop) : Prop :=
  Deref l fun (p1 : Addr) =>
    Ld PG ty_sl_string p1 (Kd.one (Cmp.leaf Leaf.sl)) h fun (s2 : Sl) =>
      CallF PG fn_slices_BinarySearch_string_string_ [Value.slice s2.a s2.len s2.cap, Value.string key] (Kd.tup [Cmp.leaf (Leaf.int IntKind.i64), Cmp.leaf Leaf.bool]) h fun (n3 : Int) (b4 : Bool) (h5 : Mem) =>
        Q n3 b4 h5
theorem eq_btree_leaf_find (l : Option Addr) (key : ByteArray) (h : Mem) (Q : Int → Bool → Mem → Prop) : wp_btree_leaf_find l key h Q = evFn PG fn_btree_leaf_find tab_btree_leaf_find [.pointer l, .string key] (.tup [(.leaf (.int .i64)), (.leaf .bool)]) h Q := by kernel_rfl
theorem ok_btree_leaf_find : okF PG fn_btree_leaf_find tab_btree_leaf_find = true := by kernel_rfl
theorem call_btree_leaf_find {l : Option Addr} {key : ByteArray} {h : Mem} {Q : Int → Bool → Mem → Prop} (hw' : wp_btree_leaf_find l key h Q) : CallF PG fn_btree_leaf_find [.pointer l, .string key] (.tup [(.leaf (.int .i64)), (.leaf .bool)]) h Q := callF_of PM ok_btree_leaf_find (eq_btree_leaf_find l key h Q ▸ hw')

/- 64: (*dunnage/btree.Forest).All -/
def tab_btree_Forest_All : Tab := ⟨[], [], []⟩
def wp_btree_Forest_All (f : Option Addr) (root : Int) (h : Mem) (Q : Value → Mem → Prop) : Prop :=
  New (Obj.cells #[Value.slice none 0 0] ty_sl_api_Entry) h fun (k1 : Nat) (h2 : Mem) =>
    Br
      (!match f with
        | some p4 => false
        | none => true)
      (Deref f fun (p6 : Addr) =>
        Ld PG ty_ptr_arena_Arena p6 (Kd.one (Cmp.leaf Leaf.ptr)) h2 fun (q7 : Option Addr) =>
          CallF PG fn_arena_Arena_Root [Value.pointer q7, Value.int IntKind.i64 root] (Kd.one (Cmp.leaf (Leaf.int IntKind.i64))) h2 fun (n8 : Int) (h9 : Mem) =>
            CallF PG fn_btree_Forest_walk [Value.pointer f, Value.int IntKind.i64 n8, Value.func (Fn.func fn_btree_Forest_All_1) #[] #[Value.pointer (some (Addr.mk k1 0 none))]] (Kd.one (Cmp.leaf Leaf.bool)) h9
              fun (b10 : Bool) (h11 : Mem) => Q (Value.func (Fn.func fn_btree_Forest_All_2) #[] #[Value.pointer (some (Addr.mk k1 0 none))]) h11)
      (Q (Value.func (Fn.func fn_btree_Forest_All_2) #[] #[Value.pointer (some (Addr.mk k1 0 none))]) h2)
theorem eq_btree_Forest_All (f : Option Addr) (root : Int) (h : Mem) (Q : Value → Mem → Prop) : wp_btree_Forest_All f root h Q = evFn PG fn_btree_Forest_All tab_btree_Forest_All [.pointer f, .int .i64 root] (.one (.leaf .raw)) h Q := by kernel_rfl
theorem ok_btree_Forest_All : okF PG fn_btree_Forest_All tab_btree_Forest_All = true := by kernel_rfl
theorem call_btree_Forest_All {f : Option Addr} {root : Int} {h : Mem} {Q : Value → Mem → Prop} (hw' : wp_btree_Forest_All f root h Q) : CallF PG fn_btree_Forest_All [.pointer f, .int .i64 root] (.one (.leaf .raw)) h Q := callF_of PM ok_btree_Forest_All (eq_btree_Forest_All f root h Q ▸ hw')

/- 65: dunnage/btree.version -/
def tab_btree_version : Tab := ⟨[], [], []⟩
def wp_btree_version (root : Int) (h : Mem) (Q : Bool → Mem → Prop) : Prop :=
  Br (decide (root ≥ 0)) (Q (decide (root < 16)) h) (Q false h)
theorem eq_btree_version (root : Int) (h : Mem) (Q : Bool → Mem → Prop) : wp_btree_version root h Q = evFn PG fn_btree_version tab_btree_version [.int .i64 root] (.one (.leaf .bool)) h Q := by kernel_rfl
theorem ok_btree_version : okF PG fn_btree_version tab_btree_version = true := by kernel_rfl
theorem call_btree_version {root : Int} {h : Mem} {Q : Bool → Mem → Prop} (hw' : wp_btree_version root h Q) : CallF PG fn_btree_version [.int .i64 root] (.one (.leaf .bool)) h Q := callF_of PM ok_btree_version (eq_btree_version root h Q ▸ hw')

/- 67: dunnage/keys.May -/
def tab_keys_May : Tab := ⟨[], [], []⟩
def wp_keys_May (key : ByteArray) (h : Mem) (Q : Bool → Mem → Prop) : Prop :=
  Br (decide ((↑key.size : Int) ≥ 1)) (Q (decide ((↑key.size : Int) ≤ 64)) h) (Q false h)
theorem eq_keys_May (key : ByteArray) (h : Mem) (Q : Bool → Mem → Prop) : wp_keys_May key h Q = evFn PG fn_keys_May tab_keys_May [.string key] (.one (.leaf .bool)) h Q := by kernel_rfl
theorem ok_keys_May : okF PG fn_keys_May tab_keys_May = true := by kernel_rfl
theorem call_keys_May {key : ByteArray} {h : Mem} {Q : Bool → Mem → Prop} (hw' : wp_keys_May key h Q) : CallF PG fn_keys_May [.string key] (.one (.leaf .bool)) h Q := callF_of PM ok_keys_May (eq_keys_May key h Q ▸ hw')

/- 68: dunnage/btree.points -/
def tab_btree_points : Tab := ⟨[], [], []⟩
def wp_btree_points (r_0 : Int) (r_1 : Int) (r_2 : Int) (h : Mem) (Q : Bool → Mem → Prop) : Prop :=
  New (Obj.cells #[Value.int IntKind.u64 r_0, Value.int IntKind.i64 r_1, Value.int IntKind.i64 r_2] ty_api_Ref) h fun (k1 : Nat) (h2 : Mem) =>
    Ld PG ty_uint64 (Addr.mk k1 0 none) (Kd.one (Cmp.leaf (Leaf.int IntKind.u64))) h2 fun (n3 : Int) =>
      Br (decide (n3 ≥ 1))
        (Ld PG ty_int ((Addr.mk k1 0 none).add 1) (Kd.one (Cmp.leaf (Leaf.int IntKind.i64))) h2 fun (n4 : Int) =>
          Br (decide (n4 ≥ 0))
            (Ld PG ty_int ((Addr.mk k1 0 none).add 1) (Kd.one (Cmp.leaf (Leaf.int IntKind.i64))) h2 fun (n5 : Int) =>
              Br (decide (n5 ≤ 65536))
                (Ld PG ty_int ((Addr.mk k1 0 none).add 2) (Kd.one (Cmp.leaf (Leaf.int IntKind.i64))) h2 fun (n6 : Int) =>
                  Br (decide (n6 ≥ 0)) (Ld PG ty_int ((Addr.mk k1 0 none).add 2) (Kd.one (Cmp.leaf (Leaf.int IntKind.i64))) h2 fun (n7 : Int) => Q (decide (n7 ≤ 4096)) h2)
                    (Q false h2))
                (Q false h2))
            (Q false h2))
        (Q false h2)
theorem eq_btree_points (r_0 : Int) (r_1 : Int) (r_2 : Int) (h : Mem) (Q : Bool → Mem → Prop) : wp_btree_points r_0 r_1 r_2 h Q = evFn PG fn_btree_points tab_btree_points [.agg #[.int .u64 r_0, .int .i64 r_1, .int .i64 r_2]] (.one (.leaf .bool)) h Q := by kernel_rfl
theorem ok_btree_points : okF PG fn_btree_points tab_btree_points = true := by kernel_rfl
theorem call_btree_points {r_0 : Int} {r_1 : Int} {r_2 : Int} {h : Mem} {Q : Bool → Mem → Prop} (hw' : wp_btree_points r_0 r_1 r_2 h Q) : CallF PG fn_btree_points [.agg #[.int .u64 r_0, .int .i64 r_1, .int .i64 r_2]] (.one (.leaf .bool)) h Q := callF_of PM ok_btree_points (eq_btree_points r_0 r_1 r_2 h Q ▸ hw')

/- 69: (*dunnage/btree.Forest).twice -/
def tab_btree_Forest_twice : Tab := ⟨[], [], []⟩
def wp_btree_Forest_twice (f : Option Addr) (root : Int) (do' : Value) (h : Mem) (Q : Int → Mem → Prop) : Prop :=
  Deref f fun (p1 : Addr) =>
    Ld PG ty_ptr_arena_Arena p1 (Kd.one (Cmp.leaf Leaf.ptr)) h fun (q2 : Option Addr) =>
      CallF PG fn_arena_Arena_Root [Value.pointer q2, Value.int IntKind.i64 root] (Kd.one (Cmp.leaf (Leaf.int IntKind.i64))) h fun (n3 : Int) (h4 : Mem) =>
        CallV PG do' [Value.int IntKind.i64 n3] (Kd.tup [Cmp.leaf (Leaf.int IntKind.i64), Cmp.leaf (Leaf.int IntKind.i64)]) h4 fun (n5 n6 : Int) (h7 : Mem) =>
          Br (n6 == 3)
            (Deref f fun (p8 : Addr) =>
              Ld PG ty_ptr_arena_Arena p8 (Kd.one (Cmp.leaf Leaf.ptr)) h7 fun (q9 : Option Addr) =>
                CallF PG fn_arena_Arena_Pack [Value.pointer q9] (Kd.one (Cmp.leaf (Leaf.int IntKind.i64))) h7 fun (n10 : Int) (h11 : Mem) =>
                  Deref f fun (p12 : Addr) =>
                    Ld PG ty_ptr_arena_Arena p12 (Kd.one (Cmp.leaf Leaf.ptr)) h11 fun (q13 : Option Addr) =>
                      CallF PG fn_arena_Arena_Root [Value.pointer q13, Value.int IntKind.i64 root] (Kd.one (Cmp.leaf (Leaf.int IntKind.i64))) h11 fun (n14 : Int) (h15 : Mem) =>
                        CallV PG do' [Value.int IntKind.i64 n14] (Kd.tup [Cmp.leaf (Leaf.int IntKind.i64), Cmp.leaf (Leaf.int IntKind.i64)]) h15
                          fun (n16 n17 : Int) (h18 : Mem) =>
                          Br (n17 != 0) (Q n17 h18)
                            (Deref f fun (p19 : Addr) =>
                              Ld PG ty_ptr_arena_Arena p19 (Kd.one (Cmp.leaf Leaf.ptr)) h18 fun (q20 : Option Addr) =>
                                CallF PG fn_arena_Arena_SetRoot [Value.pointer q20, Value.int IntKind.i64 root, Value.int IntKind.i64 n16] (Kd.one (Cmp.leaf (Leaf.int IntKind.i64))) h18
                                  fun (n21 : Int) (h22 : Mem) => Q n21 h22))
            (Br (n6 != 0) (Q n6 h7)
              (Deref f fun (p23 : Addr) =>
                Ld PG ty_ptr_arena_Arena p23 (Kd.one (Cmp.leaf Leaf.ptr)) h7 fun (q24 : Option Addr) =>
                  CallF PG fn_arena_Arena_SetRoot [Value.pointer q24, Value.int IntKind.i64 root, Value.int IntKind.i64 n5] (Kd.one (Cmp.leaf (Leaf.int IntKind.i64))) h7
                    fun (n25 : Int) (h26 : Mem) => Q n25 h26))
theorem eq_btree_Forest_twice (f : Option Addr) (root : Int) (do' : Value) (h : Mem) (Q : Int → Mem → Prop) : wp_btree_Forest_twice f root do' h Q = evFn PG fn_btree_Forest_twice tab_btree_Forest_twice [.pointer f, .int .i64 root, do'] (.one (.leaf (.int .i64))) h Q := by kernel_rfl
theorem ok_btree_Forest_twice : okF PG fn_btree_Forest_twice tab_btree_Forest_twice = true := by kernel_rfl
theorem call_btree_Forest_twice {f : Option Addr} {root : Int} {do' : Value} {h : Mem} {Q : Int → Mem → Prop} (hw' : wp_btree_Forest_twice f root do' h Q) : CallF PG fn_btree_Forest_twice [.pointer f, .int .i64 root, do'] (.one (.leaf (.int .i64))) h Q := callF_of PM ok_btree_Forest_twice (eq_btree_Forest_twice f root do' h Q ▸ hw')

/- 70: (*dunnage/btree.Forest).Put$1 -/
def tab_btree_Forest_Put_1 : Tab := ⟨[], [], []⟩
def wp_btree_Forest_Put_1 (at' : Int) (a1 : Option Addr) (a2 : Option Addr) (a3 : Option Addr) (h : Mem) (Q : Int → Int → Mem → Prop) : Prop :=
  Deref a1 fun (p1 : Addr) =>
    Ld PG ty_ptr_btree_Forest p1 (Kd.one (Cmp.leaf Leaf.ptr)) h fun (q2 : Option Addr) =>
      Deref a2 fun (p3 : Addr) =>
        Ld PG ty_string p3 (Kd.one (Cmp.leaf Leaf.str)) h fun (t4 : ByteArray) =>
          Deref a3 fun (p5 : Addr) =>
            Ld PG ty_api_Ref p5 (Kd.one (Cmp.agg [Leaf.int IntKind.u64, Leaf.int IntKind.i64, Leaf.int IntKind.i64])) h fun (n6 n7 n8 : Int) =>
              CallF PG fn_btree_Forest_put 
                [Value.pointer q2, Value.int IntKind.i64 at', Value.string t4, Value.agg #[Value.int IntKind.u64 n6, Value.int IntKind.i64 n7, Value.int IntKind.i64 n8]]
                (Kd.tup
                  [Cmp.agg [Leaf.int IntKind.i64, Leaf.int IntKind.i64, Leaf.str, Leaf.int IntKind.u64, Leaf.int IntKind.i64, Leaf.int IntKind.i64], Cmp.leaf (Leaf.int IntKind.i64)])
                h fun (n9 n10 : Int) (t11 : ByteArray) (n12 n13 n14 n15 : Int) (h16 : Mem) =>
                New
                  (Obj.cells
                    #[Value.int IntKind.i64 0, Value.int IntKind.i64 0, Value.string (ByteArray.mk #[]), Value.int IntKind.u64 0, Value.int IntKind.i64 0, Value.int IntKind.i64 0]
                    122)
                  h16 fun (k17 : Nat) (h18 : Mem) =>
                  St PG ty_btree_halves (Addr.mk k17 0 none)
                    (Value.agg
                      #[Value.int IntKind.i64 n9, Value.int IntKind.i64 n10, Value.string t11, Value.int IntKind.u64 n12, Value.int IntKind.i64 n13, Value.int IntKind.i64 n14])
                    h18 fun (h19 : Mem) =>
                    Br (n15 != 0) (Q 0 n15 h19)
                      (Deref a1 fun (p20 : Addr) =>
                        Ld PG ty_ptr_btree_Forest p20 (Kd.one (Cmp.leaf Leaf.ptr)) h19 fun (q21 : Option Addr) =>
                          Ld PG ty_btree_halves (Addr.mk k17 0 none)
                            (Kd.one (Cmp.agg [Leaf.int IntKind.i64, Leaf.int IntKind.i64, Leaf.str, Leaf.int IntKind.u64, Leaf.int IntKind.i64, Leaf.int IntKind.i64])) h19
                            fun (n22 n23 : Int) (t24 : ByteArray) (n25 n26 n27 : Int) =>
                            CallF PG fn_btree_Forest_root 
                              [Value.pointer q21,
                                Value.agg
                                  #[Value.int IntKind.i64 n22, Value.int IntKind.i64 n23, Value.string t24, Value.int IntKind.u64 n25, Value.int IntKind.i64 n26,
                                    Value.int IntKind.i64 n27]]
                              (Kd.tup [Cmp.leaf (Leaf.int IntKind.i64), Cmp.leaf (Leaf.int IntKind.i64)]) h19 fun (n28 n29 : Int) (h30 : Mem) => Q n28 n29 h30)
theorem eq_btree_Forest_Put_1 (at' : Int) (a1 : Option Addr) (a2 : Option Addr) (a3 : Option Addr) (h : Mem) (Q : Int → Int → Mem → Prop) : wp_btree_Forest_Put_1 at' a1 a2 a3 h Q = evFn PG fn_btree_Forest_Put_1 tab_btree_Forest_Put_1 [.int .i64 at', .pointer a1, .pointer a2, .pointer a3] (.tup [(.leaf (.int .i64)), (.leaf (.int .i64))]) h Q := by kernel_rfl
theorem ok_btree_Forest_Put_1 : okF PG fn_btree_Forest_Put_1 tab_btree_Forest_Put_1 = true := by kernel_rfl
theorem call_btree_Forest_Put_1 {at' : Int} {a1 : Option Addr} {a2 : Option Addr} {a3 : Option Addr} {h : Mem} {Q : Int → Int → Mem → Prop} (hw' : wp_btree_Forest_Put_1 at' a1 a2 a3 h Q) : CallF PG fn_btree_Forest_Put_1 [.int .i64 at', .pointer a1, .pointer a2, .pointer a3] (.tup [(.leaf (.int .i64)), (.leaf (.int .i64))]) h Q := callF_of PM ok_btree_Forest_Put_1 (eq_btree_Forest_Put_1 at' a1 a2 a3 h Q ▸ hw')

/- 71: (*dunnage/btree.Forest).put; join 4: []; join 16: []; join 6: [h, e] -/
def tab_btree_Forest_put : Tab := ⟨[], [(4, ⟨[], [15, 16, 17, 18, 19]⟩), (16, ⟨[], [9, 13, 14, 26, 27, 28, 29, 30, 31, 32, 33, 34, 35, 36, 37, 38, 39, 40, 41, 42, 43, 44, 45, 46, 47, 48, 49, 50, 51, 52, 53, 54, 55, 56, 57, 58, 59, 60, 61, 62, 63, 64, 65, 66, 67, 68, 69, 70, 71, 72, 73, 74, 75, 76, 77, 78, 79, 80, 81, 82, 83, 84]⟩), (6, ⟨[(13, .leaf .ptr), (14, .leaf (.int .i64))], [26, 27, 28, 29, 30, 31, 32, 33, 34, 35, 36, 37]⟩)], [(5, .nil)]⟩
def wp_btree_Forest_put (f : Option Addr) (at' : Int) (key : ByteArray) (r_0 : Int) (r_1 : Int) (r_2 : Int) (h : Mem) (Q : Int → Int → ByteArray → Int → Int → Int → Int → Mem → Prop) : Prop :=
  New (Obj.cells #[Value.int IntKind.u64 r_0, Value.int IntKind.i64 r_1, Value.int IntKind.i64 r_2] ty_api_Ref) h fun (k1 : Nat) (h2 : Mem) =>
    New
      (Obj.cells #[Value.int IntKind.i64 0, Value.int IntKind.i64 0, Value.string (ByteArray.mk #[]), Value.int IntKind.u64 0, Value.int IntKind.i64 0, Value.int IntKind.i64 0] 122)
      h2 fun (k3 : Nat) (h4 : Mem) =>
      New (Obj.cells #[Value.slice none 0 0, Value.slice none 0 0, Value.slice none 0 0] ty_btree_node) h4 fun (k5 : Nat) (h6 : Mem) =>
        ∃ (I7 : Mem → Prop),
          (∀ (j8 : Fr) (h9 : Mem),
              I7 h9 →
                CallF PG fn_btree_leaf_find [Value.pointer (some (Addr.mk k5 0 none)), Value.string key] (Kd.tup [Cmp.leaf (Leaf.int IntKind.i64), Cmp.leaf Leaf.bool]) h9
                  fun (n10 : Int) (b11 : Bool) (h12 : Mem) =>
                  ∃ (I13 : Mem → Prop),
                    (∀ (j14 : Fr) (h15 : Mem),
                        I13 h15 →
                          Ld PG ty_btree_node (Addr.mk k5 0 none) (Kd.one (Cmp.agg [Leaf.sl, Leaf.sl, Leaf.sl])) h15 fun (s16 s17 s18 : Sl) =>
                            CallF PG fn_btree_Forest_split 
                              [Value.pointer f, Value.agg #[Value.slice s16.a s16.len s16.cap, Value.slice s17.a s17.len s17.cap, Value.slice s18.a s18.len s18.cap]]
                              (Kd.tup
                                [Cmp.agg [Leaf.int IntKind.i64, Leaf.int IntKind.i64, Leaf.str, Leaf.int IntKind.u64, Leaf.int IntKind.i64, Leaf.int IntKind.i64],
                                  Cmp.leaf (Leaf.int IntKind.i64)])
                              h15 fun (n19 n20 : Int) (t21 : ByteArray) (n22 n23 n24 n25 : Int) (h26 : Mem) =>
                              St PG ty_btree_halves (Addr.mk k3 0 none)
                                (Value.agg
                                  #[Value.int IntKind.i64 n19, Value.int IntKind.i64 n20, Value.string t21, Value.int IntKind.u64 n22, Value.int IntKind.i64 n23,
                                    Value.int IntKind.i64 n24])
                                h26 fun (h27 : Mem) =>
                                Ld PG ty_btree_halves (Addr.mk k3 0 none)
                                  (Kd.one (Cmp.agg [Leaf.int IntKind.i64, Leaf.int IntKind.i64, Leaf.str, Leaf.int IntKind.u64, Leaf.int IntKind.i64, Leaf.int IntKind.i64])) h27
                                  fun (n28 n29 : Int) (t30 : ByteArray) (n31 n32 n33 : Int) => Q n28 n29 t30 n31 n32 n33 n25 h27) ∧
                      Br b11
                        (Ld PG ty_sl_api_Ref ((Addr.mk k5 0 none).add 1) (Kd.one (Cmp.leaf Leaf.sl)) h12 fun (s34 : Sl) =>
                          Ld PG ty_api_Ref (Addr.mk k1 0 none) (Kd.one (Cmp.agg [Leaf.int IntKind.u64, Leaf.int IntKind.i64, Leaf.int IntKind.i64])) h12 fun (n35 n36 n37 : Int) =>
                            Idx s34.a s34.len n10 fun (p38 : Addr) =>
                              St PG ty_api_Ref (p38.add (n10.toNat * 3)) (Value.agg #[Value.int IntKind.u64 n35, Value.int IntKind.i64 n36, Value.int IntKind.i64 n37]) h12
                                fun (h39 : Mem) => I13 h39)
                        (Ld PG ty_sl_int ((Addr.mk k5 0 none).add 2) (Kd.one (Cmp.leaf Leaf.sl)) h12 fun (s40 : Sl) =>
                          Br ((↑s40.len : Int) == 0)
                            (Ld PG ty_api_Ref (Addr.mk k1 0 none) (Kd.one (Cmp.agg [Leaf.int IntKind.u64, Leaf.int IntKind.i64, Leaf.int IntKind.i64])) h12 fun (n41 n42 n43 : Int) =>
                              CallF PG fn_btree_leaf_insert 
                                [Value.pointer (some (Addr.mk k5 0 none)), Value.int IntKind.i64 n10, Value.string key,
                                  Value.agg #[Value.int IntKind.u64 n41, Value.int IntKind.i64 n42, Value.int IntKind.i64 n43]]
                                (Kd.tup []) h12 fun (h44 : Mem) => I13 h44)
                            (∃ (I45 : Option Addr → Int → Mem → Prop),
                              (∀ (j46 : Fr) (q47 : Option Addr) (n48 : Int) (h49 : Mem),
                                  I45 q47 n48 h49 →
                                    Br (n48 != 0)
                                      (St PG ty_btree_halves (Addr.mk k3 0 none)
                                        (Value.agg
                                          #[Value.int IntKind.i64 0, Value.int IntKind.i64 0, Value.string (ByteArray.mk #[]), Value.int IntKind.u64 0, Value.int IntKind.i64 0,
                                            Value.int IntKind.i64 0])
                                        h49 fun (h50 : Mem) =>
                                        Ld PG ty_btree_halves (Addr.mk k3 0 none)
                                          (Kd.one (Cmp.agg [Leaf.int IntKind.i64, Leaf.int IntKind.i64, Leaf.str, Leaf.int IntKind.u64, Leaf.int IntKind.i64, Leaf.int IntKind.i64]))
                                          h50 fun (n51 n52 : Int) (t53 : ByteArray) (n54 n55 n56 : Int) => Q n51 n52 t53 n54 n55 n56 n48 h50)
                                      (Ld PG ty_sl_int ((Addr.mk k5 0 none).add 2) (Kd.one (Cmp.leaf Leaf.sl)) h49 fun (s57 : Sl) =>
                                        Deref q47 fun (p58 : Addr) =>
                                          Ld PG ty_int p58 (Kd.one (Cmp.leaf (Leaf.int IntKind.i64))) h49 fun (n59 : Int) =>
                                            Idx s57.a s57.len n10 fun (p60 : Addr) =>
                                              St PG ty_int (p60.add (n10.toNat * 1)) (Value.int IntKind.i64 n59) h49 fun (h61 : Mem) =>
                                                Deref q47 fun (p62 : Addr) =>
                                                  Ld PG ty_int (p62.add 1) (Kd.one (Cmp.leaf (Leaf.int IntKind.i64))) h61 fun (n63 : Int) =>
                                                    Br (n63 != 0)
                                                      (Deref q47 fun (p64 : Addr) =>
                                                        Ld PG ty_string (p64.add 2) (Kd.one (Cmp.leaf Leaf.str)) h61 fun (t65 : ByteArray) =>
                                                          Deref q47 fun (p66 : Addr) =>
                                                            Ld PG ty_api_Ref (p66.add 3) (Kd.one (Cmp.agg [Leaf.int IntKind.u64, Leaf.int IntKind.i64, Leaf.int IntKind.i64])) h61
                                                              fun (n67 n68 n69 : Int) =>
                                                              CallF PG fn_btree_leaf_insert 
                                                                [Value.pointer (some (Addr.mk k5 0 none)), Value.int IntKind.i64 n10, Value.string t65,
                                                                  Value.agg #[Value.int IntKind.u64 n67, Value.int IntKind.i64 n68, Value.int IntKind.i64 n69]]
                                                                (Kd.tup []) h61 fun (h70 : Mem) =>
                                                                Ld PG ty_sl_int ((Addr.mk k5 0 none).add 2) (Kd.one (Cmp.leaf Leaf.sl)) h70 fun (s71 : Sl) =>
                                                                  Deref q47 fun (p72 : Addr) =>
                                                                    Ld PG ty_int (p72.add 1) (Kd.one (Cmp.leaf (Leaf.int IntKind.i64))) h70 fun (n73 : Int) =>
                                                                      New (Obj.cells #[Value.int IntKind.i64 n73] ty_int) h70 fun (k74 : Nat) (h75 : Mem) =>
                                                                        CallF PG fn_slices_Insert_int_int_ 
                                                                          [Value.slice s71.a s71.len s71.cap, Value.int IntKind.i64 (IntKind.i64.wrap (n10 + 1)),
                                                                            Value.slice (some (Addr.mk k74 0 none)) 1 1]
                                                                          (Kd.one (Cmp.leaf Leaf.sl)) h75 fun (s76 : Sl) (h77 : Mem) =>
                                                                          St PG ty_sl_int ((Addr.mk k5 0 none).add 2) (Value.slice s76.a s76.len s76.cap) h77 fun (h78 : Mem) =>
                                                                            I13 h78)
                                                      (I13 h61))) ∧
                                Ld PG ty_sl_int ((Addr.mk k5 0 none).add 2) (Kd.one (Cmp.leaf Leaf.sl)) h12 fun (s79 : Sl) =>
                                  Idx s79.a s79.len n10 fun (p80 : Addr) =>
                                    Ld PG ty_int (p80.add (n10.toNat * 1)) (Kd.one (Cmp.leaf (Leaf.int IntKind.i64))) h12 fun (n81 : Int) =>
                                      Ld PG ty_api_Ref (Addr.mk k1 0 none) (Kd.one (Cmp.agg [Leaf.int IntKind.u64, Leaf.int IntKind.i64, Leaf.int IntKind.i64])) h12
                                        fun (n82 n83 n84 : Int) =>
                                        (CallF PG fn_btree_Forest_put 
                                            [Value.pointer f, Value.int IntKind.i64 n81, Value.string key,
                                              Value.agg #[Value.int IntKind.u64 n82, Value.int IntKind.i64 n83, Value.int IntKind.i64 n84]]
                                            (Kd.tup
                                              [Cmp.agg [Leaf.int IntKind.i64, Leaf.int IntKind.i64, Leaf.str, Leaf.int IntKind.u64, Leaf.int IntKind.i64, Leaf.int IntKind.i64],
                                                Cmp.leaf (Leaf.int IntKind.i64)])
                                            h12 fun (n85 n86 : Int) (t87 : ByteArray) (n88 n89 n90 n91 : Int) (h92 : Mem) =>
                                            New
                                              (Obj.cells
                                                #[Value.int IntKind.i64 0, Value.int IntKind.i64 0, Value.string (ByteArray.mk #[]), Value.int IntKind.u64 0, Value.int IntKind.i64 0,
                                                  Value.int IntKind.i64 0]
                                                122)
                                              h92 fun (k93 : Nat) (h94 : Mem) =>
                                              St PG ty_btree_halves (Addr.mk k93 0 none)
                                                (Value.agg
                                                  #[Value.int IntKind.i64 n85, Value.int IntKind.i64 n86, Value.string t87, Value.int IntKind.u64 n88, Value.int IntKind.i64 n89,
                                                    Value.int IntKind.i64 n90])
                                                h94 fun (h95 : Mem) => I45 (some (Addr.mk k93 0 none)) n91 h95) ∧
                                          New
                                            (Obj.cells
                                              #[Value.int IntKind.i64 0, Value.int IntKind.i64 0, Value.string (ByteArray.mk #[]), Value.int IntKind.u64 0, Value.int IntKind.i64 0,
                                                Value.int IntKind.i64 0]
                                              122)
                                            h12 fun (k96 : Nat) (h97 : Mem) =>
                                            (Ld PG ty_api_Ref (Addr.mk k1 0 none) (Kd.one (Cmp.agg [Leaf.int IntKind.u64, Leaf.int IntKind.i64, Leaf.int IntKind.i64])) h97
                                                fun (n98 n99 n100 : Int) =>
                                                Value.agg #[Value.int IntKind.u64 n98, Value.int IntKind.i64 n99, Value.int IntKind.i64 n100] =
                                                  Value.agg #[Value.int IntKind.u64 n82, Value.int IntKind.i64 n83, Value.int IntKind.i64 n84]) ∧
                                              (Ld PG ty_int (p80.add (n10.toNat * 1)) (Kd.one (Cmp.leaf (Leaf.int IntKind.i64))) h97 fun (n101 : Int) =>
                                                  Value.int IntKind.i64 n101 = Value.int IntKind.i64 n81) ∧
                                                (Ld PG ty_sl_int ((Addr.mk k5 0 none).add 2) (Kd.one (Cmp.leaf Leaf.sl)) h97 fun (s102 : Sl) =>
                                                    Value.slice s102.a s102.len s102.cap = Value.slice s79.a s79.len s79.cap) ∧
                                                  CallF PG fn_btree_Forest_put 
                                                    [Value.pointer f, Value.int IntKind.i64 n81, Value.string key,
                                                      Value.agg #[Value.int IntKind.u64 n82, Value.int IntKind.i64 n83, Value.int IntKind.i64 n84]]
                                                    (Kd.tup
                                                      [Cmp.agg
                                                          [Leaf.int IntKind.i64, Leaf.int IntKind.i64, Leaf.str, Leaf.int IntKind.u64, Leaf.int IntKind.i64, Leaf.int IntKind.i64],
                                                        Cmp.leaf (Leaf.int IntKind.i64)])
                                                    h97 fun (n103 n104 : Int) (t105 : ByteArray) (n106 n107 n108 n109 : Int) (h110 : Mem) =>
                                                    St PG ty_btree_halves (Addr.mk k96 0 none)
                                                      (Value.agg
                                                        #[Value.int IntKind.i64 n103, Value.int IntKind.i64 n104, Value.string t105, Value.int IntKind.u64 n106,
                                                          Value.int IntKind.i64 n107, Value.int IntKind.i64 n108])
                                                      h110 fun (h111 : Mem) => I45 (some (Addr.mk k96 0 none)) n109 h111))) ∧
            Br (at' != 0)
              (CallF PG fn_btree_Forest_load [Value.pointer f, Value.int IntKind.i64 at'] (Kd.one (Cmp.agg [Leaf.sl, Leaf.sl, Leaf.sl])) h6 fun (s112 s113 s114 : Sl) (h115 : Mem) =>
                St PG ty_btree_node (Addr.mk k5 0 none) (Value.agg #[Value.slice s112.a s112.len s112.cap, Value.slice s113.a s113.len s113.cap, Value.slice s114.a s114.len s114.cap])
                  h115 fun (h116 : Mem) => I7 h116)
              (I7 h6)
theorem eq_btree_Forest_put (f : Option Addr) (at' : Int) (key : ByteArray) (r_0 : Int) (r_1 : Int) (r_2 : Int) (h : Mem) (Q : Int → Int → ByteArray → Int → Int → Int → Int → Mem → Prop) : wp_btree_Forest_put f at' key r_0 r_1 r_2 h Q = evFn PG fn_btree_Forest_put tab_btree_Forest_put [.pointer f, .int .i64 at', .string key, .agg #[.int .u64 r_0, .int .i64 r_1, .int .i64 r_2]] (.tup [(.agg [(.int .i64), (.int .i64), .str, (.int .u64), (.int .i64), (.int .i64)]), (.leaf (.int .i64))]) h Q := by kernel_rfl
theorem ok_btree_Forest_put : okF PG fn_btree_Forest_put tab_btree_Forest_put = true := by kernel_rfl
theorem call_btree_Forest_put {f : Option Addr} {at' : Int} {key : ByteArray} {r_0 : Int} {r_1 : Int} {r_2 : Int} {h : Mem} {Q : Int → Int → ByteArray → Int → Int → Int → Int → Mem → Prop} (hw' : wp_btree_Forest_put f at' key r_0 r_1 r_2 h Q) : CallF PG fn_btree_Forest_put [.pointer f, .int .i64 at', .string key, .agg #[.int .u64 r_0, .int .i64 r_1, .int .i64 r_2]] (.tup [(.agg [(.int .i64), (.int .i64), .str, (.int .u64), (.int .i64), (.int .i64)]), (.leaf (.int .i64))]) h Q := callF_of PM ok_btree_Forest_put (eq_btree_Forest_put f at' key r_0 r_1 r_2 h Q ▸ hw')

/- 72: (*dunnage/btree.Forest).root -/
def tab_btree_Forest_root : Tab := ⟨[], [], []⟩
def wp_btree_Forest_root (f : Option Addr) (h'_0 : Int) (h'_1 : Int) (h'_2 : ByteArray) (h'_3 : Int) (h'_4 : Int) (h'_5 : Int) (h : Mem) (Q : Int → Int → Mem → Prop) : Prop :=
  New (Obj.cells #[Value.int IntKind.i64 h'_0, Value.int IntKind.i64 h'_1, Value.string h'_2, Value.int IntKind.u64 h'_3, Value.int IntKind.i64 h'_4, Value.int IntKind.i64 h'_5] 122)
    h fun (k1 : Nat) (h2 : Mem) =>
    Ld PG ty_int ((Addr.mk k1 0 none).add 1) (Kd.one (Cmp.leaf (Leaf.int IntKind.i64))) h2 fun (n3 : Int) =>
      Br (n3 == 0) (Ld PG ty_int (Addr.mk k1 0 none) (Kd.one (Cmp.leaf (Leaf.int IntKind.i64))) h2 fun (n4 : Int) => Q n4 0 h2)
        (Ld PG ty_string ((Addr.mk k1 0 none).add 2) (Kd.one (Cmp.leaf Leaf.str)) h2 fun (t5 : ByteArray) =>
          New (Obj.cells #[Value.string t5] ty_string) h2 fun (k6 : Nat) (h7 : Mem) =>
            Ld PG ty_api_Ref ((Addr.mk k1 0 none).add 3) (Kd.one (Cmp.agg [Leaf.int IntKind.u64, Leaf.int IntKind.i64, Leaf.int IntKind.i64])) h7 fun (n8 n9 n10 : Int) =>
              New (Obj.cells #[Value.int IntKind.u64 n8, Value.int IntKind.i64 n9, Value.int IntKind.i64 n10] ty_api_Ref) h7 fun (k11 : Nat) (h12 : Mem) =>
                Ld PG ty_int (Addr.mk k1 0 none) (Kd.one (Cmp.leaf (Leaf.int IntKind.i64))) h12 fun (n13 : Int) =>
                  Ld PG ty_int ((Addr.mk k1 0 none).add 1) (Kd.one (Cmp.leaf (Leaf.int IntKind.i64))) h12 fun (n14 : Int) =>
                    New (Obj.cells #[Value.int IntKind.i64 n13, Value.int IntKind.i64 n14] ty_int) h12 fun (k15 : Nat) (h16 : Mem) =>
                      CallF PG fn_btree_Forest_keep 
                        [Value.pointer f,
                          Value.agg #[Value.slice (some (Addr.mk k6 0 none)) 1 1, Value.slice (some (Addr.mk k11 0 none)) 1 1, Value.slice (some (Addr.mk k15 0 none)) 2 2]]
                        (Kd.tup [Cmp.leaf (Leaf.int IntKind.i64), Cmp.leaf (Leaf.int IntKind.i64)]) h16 fun (n17 n18 : Int) (h19 : Mem) => Q n17 n18 h19)
theorem eq_btree_Forest_root (f : Option Addr) (h'_0 : Int) (h'_1 : Int) (h'_2 : ByteArray) (h'_3 : Int) (h'_4 : Int) (h'_5 : Int) (h : Mem) (Q : Int → Int → Mem → Prop) : wp_btree_Forest_root f h'_0 h'_1 h'_2 h'_3 h'_4 h'_5 h Q = evFn PG fn_btree_Forest_root tab_btree_Forest_root [.pointer f, .agg #[.int .i64 h'_0, .int .i64 h'_1, .string h'_2, .int .u64 h'_3, .int .i64 h'_4, .int .i64 h'_5]] (.tup [(.leaf (.int .i64)), (.leaf (.int .i64))]) h Q := by kernel_rfl
theorem ok_btree_Forest_root : okF PG fn_btree_Forest_root tab_btree_Forest_root = true := by kernel_rfl
theorem call_btree_Forest_root {f : Option Addr} {h'_0 : Int} {h'_1 : Int} {h'_2 : ByteArray} {h'_3 : Int} {h'_4 : Int} {h'_5 : Int} {h : Mem} {Q : Int → Int → Mem → Prop} (hw' : wp_btree_Forest_root f h'_0 h'_1 h'_2 h'_3 h'_4 h'_5 h Q) : CallF PG fn_btree_Forest_root [.pointer f, .agg #[.int .i64 h'_0, .int .i64 h'_1, .string h'_2, .int .u64 h'_3, .int .i64 h'_4, .int .i64 h'_5]] (.tup [(.leaf (.int .i64)), (.leaf (.int .i64))]) h Q := callF_of PM ok_btree_Forest_root (eq_btree_Forest_root f h'_0 h'_1 h'_2 h'_3 h'_4 h'_5 h Q ▸ hw')

/- 78: (*dunnage/btree.Forest).keep -/
def tab_btree_Forest_keep : Tab := ⟨[], [], []⟩
def wp_btree_Forest_keep (f : Option Addr) (n_0 : Sl) (n_1 : Sl) (n_2 : Sl) (h : Mem) (Q : Int → Int → Mem → Prop) : Prop :=
  New (Obj.cells #[Value.slice n_0.a n_0.len n_0.cap, Value.slice n_1.a n_1.len n_1.cap, Value.slice n_2.a n_2.len n_2.cap] ty_btree_node) h fun (k1 : Nat) (h2 : Mem) =>
    Deref f fun (p3 : Addr) =>
      Ld PG ty_ptr_arena_Arena p3 (Kd.one (Cmp.leaf Leaf.ptr)) h2 fun (q4 : Option Addr) =>
        Ld PG ty_sl_int ((Addr.mk k1 0 none).add 2) (Kd.one (Cmp.leaf Leaf.sl)) h2 fun (s5 : Sl) =>
          Ld PG ty_sl_int ((Addr.mk k1 0 none).add 2) (Kd.one (Cmp.leaf Leaf.sl)) h2 fun (s6 : Sl) =>
            CallF PG fn_btree_node_words [Value.pointer (some (Addr.mk k1 0 none))] (Kd.one (Cmp.leaf Leaf.sl)) h2 fun (s7 : Sl) (h8 : Mem) =>
              (Ld PG ty_sl_int ((Addr.mk k1 0 none).add 2) (Kd.one (Cmp.leaf Leaf.sl)) h8 fun (s9 : Sl) => Value.slice s9.a s9.len s9.cap = Value.slice s6.a s6.len s6.cap) ∧
                (Ld PG ty_sl_int ((Addr.mk k1 0 none).add 2) (Kd.one (Cmp.leaf Leaf.sl)) h8 fun (s10 : Sl) => Value.slice s10.a s10.len s10.cap = Value.slice s5.a s5.len s5.cap) ∧
                  (Ld PG ty_ptr_arena_Arena p3 (Kd.one (Cmp.leaf Leaf.ptr)) h8 fun (q11 : Option Addr) => Value.pointer q11 = Value.pointer q4) ∧
                    CallF PG fn_arena_Arena_Make 
                      [Value.pointer q4, Value.int IntKind.i64 (if 1 < (↑s5.len : Int) then 1 else (↑s5.len : Int)), Value.slice s6.a s6.len s6.cap, Value.slice s7.a s7.len s7.cap]
                      (Kd.tup [Cmp.leaf (Leaf.int IntKind.i64), Cmp.leaf (Leaf.int IntKind.i64)]) h8 fun (n12 n13 : Int) (h14 : Mem) => Q n12 n13 h14
theorem eq_btree_Forest_keep (f : Option Addr) (n_0 : Sl) (n_1 : Sl) (n_2 : Sl) (h : Mem) (Q : Int → Int → Mem → Prop) : wp_btree_Forest_keep f n_0 n_1 n_2 h Q = evFn PG fn_btree_Forest_keep tab_btree_Forest_keep [.pointer f, .agg #[.slice n_0.a n_0.len n_0.cap, .slice n_1.a n_1.len n_1.cap, .slice n_2.a n_2.len n_2.cap]] (.tup [(.leaf (.int .i64)), (.leaf (.int .i64))]) h Q := by kernel_rfl
theorem ok_btree_Forest_keep : okF PG fn_btree_Forest_keep tab_btree_Forest_keep = true := by kernel_rfl
theorem call_btree_Forest_keep {f : Option Addr} {n_0 : Sl} {n_1 : Sl} {n_2 : Sl} {h : Mem} {Q : Int → Int → Mem → Prop} (hw' : wp_btree_Forest_keep f n_0 n_1 n_2 h Q) : CallF PG fn_btree_Forest_keep [.pointer f, .agg #[.slice n_0.a n_0.len n_0.cap, .slice n_1.a n_1.len n_1.cap, .slice n_2.a n_2.len n_2.cap]] (.tup [(.leaf (.int .i64)), (.leaf (.int .i64))]) h Q := callF_of PM ok_btree_Forest_keep (eq_btree_Forest_keep f n_0 n_1 n_2 h Q ▸ hw')

/- 98: dunnage/btree.read; loop 4: [at, i]; loop 8: [] -/
def tab_btree_read : Tab := ⟨[(4, ⟨[(3, .leaf .sl), (5, .leaf (.int .i64))], [6, 7, 8, 9, 15, 16, 17, 18, 19, 20, 21, 22, 23, 24, 25, 26, 27, 28, 29, 30, 31, 32, 33, 34, 35, 36, 37, 38, 39, 40, 41, 42, 43, 44, 45, 46, 47, 48, 49, 50, 51, 52, 53, 54, 55, 56, 57, 58, 59, 60, 61, 62, 63, 64, 65, 66, 67, 68, 69, 70, 71, 72, 73, 74, 75, 76, 77, 78, 79, 80, 81, 82, 83, 84, 85, 86, 87, 88, 89, 90, 91, 92, 93, 94, 95, 96, 97, 98, 99]⟩), (8, ⟨[(28, .leaf (.int .i64))], [8, 29, 30, 31, 32, 33, 34, 35, 36, 37, 38, 39, 40, 41, 42, 43, 44, 45, 46, 47]⟩)], [], []⟩
def wp_btree_read (o_0 : Int) (o_1 : Sl) (o_2 : Sl) (h : Mem) (Q : Sl → Sl → Sl → Sl → Mem → Prop) : Prop :=
  New (Obj.cells #[Value.int IntKind.i64 o_0, Value.slice o_1.a o_1.len o_1.cap, Value.slice o_2.a o_2.len o_2.cap] ty_api_Object) h fun (k1 : Nat) (h2 : Mem) =>
    New (Obj.cells #[Value.slice none 0 0, Value.slice none 0 0, Value.slice none 0 0] ty_btree_node) h2 fun (k3 : Nat) (h4 : Mem) =>
      Ld PG ty_sl_int ((Addr.mk k1 0 none).add 1) (Kd.one (Cmp.leaf Leaf.sl)) h4 fun (s5 : Sl) =>
        St PG ty_sl_int ((Addr.mk k3 0 none).add 2) (Value.slice s5.a s5.len s5.cap) h4 fun (h6 : Mem) =>
          Ld PG ty_sl_uint32 ((Addr.mk k1 0 none).add 2) (Kd.one (Cmp.leaf Leaf.sl)) h6 fun (s7 : Sl) =>
            ∃ (I8 : Sl → Int → Mem → Prop),
              ∃ (I9 : Sl → Int → Mem → Nat),
                I8 (Sl.mk none 0 0) 0 h6 ∧
                  ∀ (j10 : Fr) (s11 : Sl) (n12 : Int) (h13 : Mem),
                    I8 s11 n12 h13 →
                      Br (decide (n12 < (↑s7.len : Int)))
                        (Idx s7.a s7.len n12 fun (p14 : Addr) =>
                          Ld PG ty_uint32 (p14.add (n12.toNat * 1)) (Kd.one (Cmp.leaf (Leaf.int IntKind.u32))) h13 fun (n15 : Int) =>
                            PrimT PG (Instr.makeSlice ty_sl_uint8 (Value.int IntKind.i64 (IntKind.i64.wrap n15)) (Value.int IntKind.i64 (IntKind.i64.wrap n15)))
                              (Kd.one (Cmp.leaf Leaf.sl)) h13 fun (s16 : Sl) (h17 : Mem) =>
                              ∃ (I18 : Int → Mem → Prop),
                                ∃ (I19 : Int → Mem → Nat),
                                  I18 0 h17 ∧
                                    ∀ (j20 : Fr) (n21 : Int) (h22 : Mem),
                                      I18 n21 h22 →
                                        Br (decide (n21 < (↑s16.len : Int)))
                                          (Idx s7.a s7.len (IntKind.i64.wrap (IntKind.i64.wrap (n12 + 1) + IntKind.i64.wrap (n21.tdiv 4))) fun (p23 : Addr) =>
                                            Ld PG ty_uint32 (p23.add ((IntKind.i64.wrap (IntKind.i64.wrap (n12 + 1) + IntKind.i64.wrap (n21.tdiv 4))).toNat * 1))
                                              (Kd.one (Cmp.leaf (Leaf.int IntKind.u32))) h22 fun (n24 : Int) =>
                                              Chk (decide (0 ≤ IntKind.i64.wrap (8 * n21.tmod 4)))
                                                (Idx s16.a s16.len n21 fun (p25 : Addr) =>
                                                  St PG ty_uint8 (p25.add (n21.toNat * 1))
                                                    (Value.int IntKind.u8 (IntKind.u8.wrap (n24.fdiv (2 ^ shN IntKind.u32 (IntKind.i64.wrap (8 * n21.tmod 4)))))) h22
                                                    fun (h26 : Mem) => I18 (IntKind.i64.wrap (n21 + 1)) h26 ∧ I19 (IntKind.i64.wrap (n21 + 1)) h26 < I19 n21 h22))
                                          (Cut 1 s7.a s7.len s7.cap
                                            (some (IntKind.i64.wrap (n12 + IntKind.i64.wrap (1 + IntKind.i64.wrap ((IntKind.i64.wrap (IntKind.i64.wrap n15 + 3)).tdiv 4)))))
                                            (some
                                              (IntKind.i64.wrap
                                                (IntKind.i64.wrap (n12 + IntKind.i64.wrap (1 + IntKind.i64.wrap ((IntKind.i64.wrap (IntKind.i64.wrap n15 + 3)).tdiv 4))) + 4)))
                                            none fun (s27 : Sl) =>
                                            Ld PG ty_sl_string (Addr.mk k3 0 none) (Kd.one (Cmp.leaf Leaf.sl)) h22 fun (s28 : Sl) =>
                                              ReadT PG (Conv.bytesToString (Value.slice s16.a s16.len s16.cap)) (Kd.one (Cmp.leaf Leaf.str)) h22 fun (t29 : ByteArray) =>
                                                New (Obj.cells #[Value.string t29] ty_string) h22 fun (k30 : Nat) (h31 : Mem) =>
                                                  PrimT PG (Builtin.append_ #[ty_sl_string, ty_sl_string] ty_sl_string #[Value.slice s28.a s28.len s28.cap, Value.slice (some (Addr.mk k30 0 none)) 1 1])
                                                    (Kd.one (Cmp.leaf Leaf.sl)) h31 fun (s32 : Sl) (h33 : Mem) =>
                                                    St PG ty_sl_string (Addr.mk k3 0 none) (Value.slice s32.a s32.len s32.cap) h33 fun (h34 : Mem) =>
                                                      Ld PG ty_sl_api_Ref ((Addr.mk k3 0 none).add 1) (Kd.one (Cmp.leaf Leaf.sl)) h34 fun (s35 : Sl) =>
                                                        Idx s27.a s27.len 0 fun (p36 : Addr) =>
                                                          Ld PG ty_uint32 (p36.add 0) (Kd.one (Cmp.leaf (Leaf.int IntKind.u32))) h34 fun (n37 : Int) =>
                                                            Idx s27.a s27.len 1 fun (p38 : Addr) =>
                                                              Ld PG ty_uint32 (p38.add 1) (Kd.one (Cmp.leaf (Leaf.int IntKind.u32))) h34 fun (n39 : Int) =>
                                                                Idx s27.a s27.len 2 fun (p40 : Addr) =>
                                                                  Ld PG ty_uint32 (p40.add 2) (Kd.one (Cmp.leaf (Leaf.int IntKind.u32))) h34 fun (n41 : Int) =>
                                                                    Idx s27.a s27.len 3 fun (p42 : Addr) =>
                                                                      Ld PG ty_uint32 (p42.add 3) (Kd.one (Cmp.leaf (Leaf.int IntKind.u32))) h34 fun (n43 : Int) =>
                                                                        New
                                                                          (Obj.cells
                                                                            #[Value.int IntKind.u64
                                                                                (bitsOf BinOp.or IntKind.u64 (IntKind.u64.wrap n37)
                                                                                  (IntKind.u64.wrap (IntKind.u64.wrap n39 * Int.ofNat 4294967296))),
                                                                              Value.int IntKind.i64 (IntKind.i64.wrap n41), Value.int IntKind.i64 (IntKind.i64.wrap n43)]
                                                                            30)
                                                                          h34 fun (k44 : Nat) (h45 : Mem) =>
                                                                          (Ld PG ty_sl_api_Ref ((Addr.mk k3 0 none).add 1) (Kd.one (Cmp.leaf Leaf.sl)) h45 fun (s46 : Sl) =>
                                                                              Value.slice s46.a s46.len s46.cap = Value.slice s35.a s35.len s35.cap) ∧
                                                                            PrimT PG
                                                                              (Builtin.append_ #[ty_sl_api_Ref, ty_sl_api_Ref] ty_sl_api_Ref
                                                                                #[Value.slice s35.a s35.len s35.cap, Value.slice (some (Addr.mk k44 0 none)) 1 1])
                                                                              (Kd.one (Cmp.leaf Leaf.sl)) h45 fun (s47 : Sl) (h48 : Mem) =>
                                                                              St PG ty_sl_api_Ref ((Addr.mk k3 0 none).add 1) (Value.slice s47.a s47.len s47.cap) h48 fun (h49 : Mem) =>
                                                                                New
                                                                                  (Obj.cells
                                                                                    #[Value.int IntKind.i64
                                                                                        (IntKind.i64.wrap
                                                                                          (n12 +
                                                                                            IntKind.i64.wrap
                                                                                              (1 + IntKind.i64.wrap ((IntKind.i64.wrap (IntKind.i64.wrap n15 + 3)).tdiv 4))))]
                                                                                    3)
                                                                                  h49 fun (k50 : Nat) (h51 : Mem) =>
                                                                                  PrimT PG
                                                                                    (Builtin.append_ #[ty_sl_int, ty_sl_int] ty_sl_int
                                                                                      #[Value.slice s11.a s11.len s11.cap, Value.slice (some (Addr.mk k50 0 none)) 1 1])
                                                                                    (Kd.one (Cmp.leaf Leaf.sl)) h51 fun (s52 : Sl) (h53 : Mem) =>
                                                                                    I8 (Sl.mk s52.a s52.len s52.cap)
                                                                                        (IntKind.i64.wrap
                                                                                          (IntKind.i64.wrap
                                                                                              (n12 +
                                                                                                IntKind.i64.wrap
                                                                                                  (1 + IntKind.i64.wrap ((IntKind.i64.wrap (IntKind.i64.wrap n15 + 3)).tdiv 4))) +
                                                                                            4))
                                                                                        h53 ∧
                                                                                      I9 (Sl.mk s52.a s52.len s52.cap)
                                                                                          (IntKind.i64.wrap
                                                                                            (IntKind.i64.wrap
                                                                                                (n12 +
                                                                                                  IntKind.i64.wrap
                                                                                                    (1 + IntKind.i64.wrap ((IntKind.i64.wrap (IntKind.i64.wrap n15 + 3)).tdiv 4))) +
                                                                                              4))
                                                                                          h53 <
                                                                                        I9 s11 n12 h13))
                        (Ld PG ty_btree_node (Addr.mk k3 0 none) (Kd.one (Cmp.agg [Leaf.sl, Leaf.sl, Leaf.sl])) h13 fun (s54 s55 s56 : Sl) =>
                          St PG ty_btree_node (Addr.mk k3 0 none) (Value.agg #[Value.slice s54.a s54.len s54.cap, Value.slice s55.a s55.len s55.cap, Value.slice s56.a s56.len s56.cap])
                            h13 fun (h57 : Mem) =>
                            Ld PG ty_btree_node (Addr.mk k3 0 none) (Kd.one (Cmp.agg [Leaf.sl, Leaf.sl, Leaf.sl])) h57 fun (s58 s59 s60 : Sl) =>
                              Q (Sl.mk s58.a s58.len s58.cap) (Sl.mk s59.a s59.len s59.cap) (Sl.mk s60.a s60.len s60.cap) (Sl.mk s11.a s11.len s11.cap) h57)
theorem eq_btree_read (o_0 : Int) (o_1 : Sl) (o_2 : Sl) (h : Mem) (Q : Sl → Sl → Sl → Sl → Mem → Prop) : wp_btree_read o_0 o_1 o_2 h Q = evFn PG fn_btree_read tab_btree_read [.agg #[.int .i64 o_0, .slice o_1.a o_1.len o_1.cap, .slice o_2.a o_2.len o_2.cap]] (.tup [(.agg [.sl, .sl, .sl]), (.leaf .sl)]) h Q := by kernel_rfl
theorem ok_btree_read : okF PG fn_btree_read tab_btree_read = true := by kernel_rfl
theorem call_btree_read {o_0 : Int} {o_1 : Sl} {o_2 : Sl} {h : Mem} {Q : Sl → Sl → Sl → Sl → Mem → Prop} (hw' : wp_btree_read o_0 o_1 o_2 h Q) : CallF PG fn_btree_read [.agg #[.int .i64 o_0, .slice o_1.a o_1.len o_1.cap, .slice o_2.a o_2.len o_2.cap]] (.tup [(.agg [.sl, .sl, .sl]), (.leaf .sl)]) h Q := callF_of PM ok_btree_read (eq_btree_read o_0 o_1 o_2 h Q ▸ hw')

/- 104: slices.BinarySearch[[]string,string]; loop 3: [i, j] -/
def tab_slices_BinarySearch_string_string_ : Tab := ⟨[(3, ⟨[(7, .leaf (.int .i64)), (8, .leaf (.int .i64))], [9, 13, 14, 15, 16, 17, 18, 19, 20, 21, 22, 23, 24, 25, 26, 27, 28, 29, 30]⟩)], [], []⟩
def wp_slices_BinarySearch_string_string_ (x : Sl) (target : ByteArray) (h : Mem) (Q : Int → Bool → Mem → Prop) : Prop :=
  ∃ (I1 : Int → Int → Mem → Prop),
    ∃ (I2 : Int → Int → Mem → Nat),
      I1 0 (↑x.len : Int) h ∧
        ∀ (j3 : Fr) (n4 n5 : Int) (h6 : Mem),
          I1 n4 n5 h6 →
            Br (decide (n4 < n5))
              (Idx x.a x.len (IntKind.i64.wrap ((IntKind.u64.wrap (IntKind.i64.wrap (n4 + n5))).fdiv (Int.ofNat 2))) fun (p7 : Addr) =>
                Ld PG ty_string (p7.add ((IntKind.i64.wrap ((IntKind.u64.wrap (IntKind.i64.wrap (n4 + n5))).fdiv (Int.ofNat 2))).toNat * 1)) (Kd.one (Cmp.leaf Leaf.str)) h6
                  fun (t8 : ByteArray) =>
                  CallF PG fn_cmp_Less_string_ [Value.string t8, Value.string target] (Kd.one (Cmp.leaf Leaf.bool)) h6 fun (b9 : Bool) (h10 : Mem) =>
                    Br b9
                      (I1 (IntKind.i64.wrap (IntKind.i64.wrap ((IntKind.u64.wrap (IntKind.i64.wrap (n4 + n5))).fdiv (Int.ofNat 2)) + 1)) n5 h10 ∧
                        I2 (IntKind.i64.wrap (IntKind.i64.wrap ((IntKind.u64.wrap (IntKind.i64.wrap (n4 + n5))).fdiv (Int.ofNat 2)) + 1)) n5 h10 < I2 n4 n5 h6)
                      (I1 n4 (IntKind.i64.wrap ((IntKind.u64.wrap (IntKind.i64.wrap (n4 + n5))).fdiv (Int.ofNat 2))) h10 ∧
                        I2 n4 (IntKind.i64.wrap ((IntKind.u64.wrap (IntKind.i64.wrap (n4 + n5))).fdiv (Int.ofNat 2))) h10 < I2 n4 n5 h6))
              (Br (decide (n4 < (↑x.len : Int)))
                (Idx x.a x.len n4 fun (p11 : Addr) =>
                  Ld PG ty_string (p11.add (n4.toNat * 1)) (Kd.one (Cmp.leaf Leaf.str)) h6 fun (t12 : ByteArray) =>
                    Br (sEq t12 target) (Q n4 true h6)
                      (Idx x.a x.len n4 fun (p13 : Addr) =>
                        Ld PG ty_string (p13.add (n4.toNat * 1)) (Kd.one (Cmp.leaf Leaf.str)) h6 fun (t14 : ByteArray) =>
                          CallF PG fn_slices_isNaN_string_ [Value.string t14] (Kd.one (Cmp.leaf Leaf.bool)) h6 fun (b15 : Bool) (h16 : Mem) =>
                            Br b15 (CallF PG fn_slices_isNaN_string_ [Value.string target] (Kd.one (Cmp.leaf Leaf.bool)) h16 fun (b17 : Bool) (h18 : Mem) => Q n4 b17 h18) (Q n4 false h16)))
                (Q n4 false h6))
theorem eq_slices_BinarySearch_string_string_ (x : Sl) (target : ByteArray) (h : Mem) (Q : Int → Bool → Mem → Prop) : wp_slices_BinarySearch_string_string_ x target h Q = evFn PG fn_slices_BinarySearch_string_string_ tab_slices_BinarySearch_string_string_ [.slice x.a x.len x.cap, .string target] (.tup [(.leaf (.int .i64)), (.leaf .bool)]) h Q := by kernel_rfl
theorem ok_slices_BinarySearch_string_string_ : okF PG fn_slices_BinarySearch_string_string_ tab_slices_BinarySearch_string_string_ = true := by kernel_rfl
theorem call_slices_BinarySearch_string_string_ {x : Sl} {target : ByteArray} {h : Mem} {Q : Int → Bool → Mem → Prop} (hw' : wp_slices_BinarySearch_string_string_ x target h Q) : CallF PG fn_slices_BinarySearch_string_string_ [.slice x.a x.len x.cap, .string target] (.tup [(.leaf (.int .i64)), (.leaf .bool)]) h Q := callF_of PM ok_slices_BinarySearch_string_string_ (eq_slices_BinarySearch_string_string_ x target h Q ▸ hw')

/- 105: (*dunnage/btree.Forest).walk; loop 5: [] -/
def tab_btree_Forest_walk : Tab := ⟨[(5, ⟨[(19, .leaf (.int .i64))], [6, 8, 9, 20, 21, 22, 23, 24, 25, 26, 27, 28, 29, 30, 31, 32, 33, 34, 35, 36, 37, 38, 39, 40, 41, 42, 43, 44, 45, 46, 47, 48, 49, 50, 51]⟩)], [], []⟩
def wp_btree_Forest_walk (f : Option Addr) (at' : Int) (yield : Value) (h : Mem) (Q : Bool → Mem → Prop) : Prop :=
  Br (at' == 0) (Q true h)
    (CallF PG fn_btree_Forest_load [Value.pointer f, Value.int IntKind.i64 at'] (Kd.one (Cmp.agg [Leaf.sl, Leaf.sl, Leaf.sl])) h fun (s1 s2 s3 : Sl) (h4 : Mem) =>
      New (Obj.cells #[Value.slice none 0 0, Value.slice none 0 0, Value.slice none 0 0] ty_btree_node) h4 fun (k5 : Nat) (h6 : Mem) =>
        St PG ty_btree_node (Addr.mk k5 0 none) (Value.agg #[Value.slice s1.a s1.len s1.cap, Value.slice s2.a s2.len s2.cap, Value.slice s3.a s3.len s3.cap]) h6 fun (h7 : Mem) =>
          Ld PG ty_sl_string (Addr.mk k5 0 none) (Kd.one (Cmp.leaf Leaf.sl)) h7 fun (s8 : Sl) =>
            ∃ (I9 : Int → Mem → Prop),
              ∃ (I10 : Int → Mem → Nat),
                I9 0 h7 ∧
                  ∀ (j11 : Fr) (n12 : Int) (h13 : Mem),
                    I9 n12 h13 →
                      Br (decide (n12 < (↑s8.len : Int)))
                        (Idx s8.a s8.len n12 fun (p14 : Addr) =>
                          Ld PG ty_string (p14.add (n12.toNat * 1)) (Kd.one (Cmp.leaf Leaf.str)) h13 fun (t15 : ByteArray) =>
                            Ld PG ty_sl_int ((Addr.mk k5 0 none).add 2) (Kd.one (Cmp.leaf Leaf.sl)) h13 fun (s16 : Sl) =>
                              Br (decide ((↑s16.len : Int) > 0))
                                (Ld PG ty_sl_int ((Addr.mk k5 0 none).add 2) (Kd.one (Cmp.leaf Leaf.sl)) h13 fun (s17 : Sl) =>
                                  Idx s17.a s17.len n12 fun (p18 : Addr) =>
                                    Ld PG ty_int (p18.add (n12.toNat * 1)) (Kd.one (Cmp.leaf (Leaf.int IntKind.i64))) h13 fun (n19 : Int) =>
                                      CallF PG fn_btree_Forest_walk [Value.pointer f, Value.int IntKind.i64 n19, yield] (Kd.one (Cmp.leaf Leaf.bool)) h13 fun (b20 : Bool) (h21 : Mem) =>
                                        Br (!b20) (Q false h21)
                                          (Ld PG ty_sl_api_Ref ((Addr.mk k5 0 none).add 1) (Kd.one (Cmp.leaf Leaf.sl)) h21 fun (s22 : Sl) =>
                                            Idx s22.a s22.len n12 fun (p23 : Addr) =>
                                              Ld PG ty_api_Ref (p23.add (n12.toNat * 3)) (Kd.one (Cmp.agg [Leaf.int IntKind.u64, Leaf.int IntKind.i64, Leaf.int IntKind.i64])) h21
                                                fun (n24 n25 n26 : Int) =>
                                                CallV PG yield [Value.string t15, Value.agg #[Value.int IntKind.u64 n24, Value.int IntKind.i64 n25, Value.int IntKind.i64 n26]]
                                                  (Kd.one (Cmp.leaf Leaf.bool)) h21 fun (b27 : Bool) (h28 : Mem) =>
                                                  Br (!b27) (Q false h28) (I9 (IntKind.i64.wrap (n12 + 1)) h28 ∧ I10 (IntKind.i64.wrap (n12 + 1)) h28 < I10 n12 h13)))
                                (Ld PG ty_sl_api_Ref ((Addr.mk k5 0 none).add 1) (Kd.one (Cmp.leaf Leaf.sl)) h13 fun (s29 : Sl) =>
                                  Idx s29.a s29.len n12 fun (p30 : Addr) =>
                                    Ld PG ty_api_Ref (p30.add (n12.toNat * 3)) (Kd.one (Cmp.agg [Leaf.int IntKind.u64, Leaf.int IntKind.i64, Leaf.int IntKind.i64])) h13
                                      fun (n31 n32 n33 : Int) =>
                                      CallV PG yield [Value.string t15, Value.agg #[Value.int IntKind.u64 n31, Value.int IntKind.i64 n32, Value.int IntKind.i64 n33]]
                                        (Kd.one (Cmp.leaf Leaf.bool)) h13 fun (b34 : Bool) (h35 : Mem) =>
                                        Br (!b34) (Q false h35) (I9 (IntKind.i64.wrap (n12 + 1)) h35 ∧ I10 (IntKind.i64.wrap (n12 + 1)) h35 < I10 n12 h13)))
                        (Ld PG ty_sl_int ((Addr.mk k5 0 none).add 2) (Kd.one (Cmp.leaf Leaf.sl)) h13 fun (s36 : Sl) =>
                          Br ((↑s36.len : Int) == 0) (Q true h13)
                            (Ld PG ty_sl_int ((Addr.mk k5 0 none).add 2) (Kd.one (Cmp.leaf Leaf.sl)) h13 fun (s37 : Sl) =>
                              Ld PG ty_sl_string (Addr.mk k5 0 none) (Kd.one (Cmp.leaf Leaf.sl)) h13 fun (s38 : Sl) =>
                                Idx s37.a s37.len (↑s38.len : Int) fun (p39 : Addr) =>
                                  Ld PG ty_int (p39.add ((↑s38.len : Int).toNat * 1)) (Kd.one (Cmp.leaf (Leaf.int IntKind.i64))) h13 fun (n40 : Int) =>
                                    CallF PG fn_btree_Forest_walk [Value.pointer f, Value.int IntKind.i64 n40, yield] (Kd.one (Cmp.leaf Leaf.bool)) h13 fun (b41 : Bool) (h42 : Mem) =>
                                      Q b41 h42)))
theorem eq_btree_Forest_walk (f : Option Addr) (at' : Int) (yield : Value) (h : Mem) (Q : Bool → Mem → Prop) : wp_btree_Forest_walk f at' yield h Q = evFn PG fn_btree_Forest_walk tab_btree_Forest_walk [.pointer f, .int .i64 at', yield] (.one (.leaf .bool)) h Q := by kernel_rfl
theorem ok_btree_Forest_walk : okF PG fn_btree_Forest_walk tab_btree_Forest_walk = true := by kernel_rfl
theorem call_btree_Forest_walk {f : Option Addr} {at' : Int} {yield : Value} {h : Mem} {Q : Bool → Mem → Prop} (hw' : wp_btree_Forest_walk f at' yield h Q) : CallF PG fn_btree_Forest_walk [.pointer f, .int .i64 at', yield] (.one (.leaf .bool)) h Q := callF_of PM ok_btree_Forest_walk (eq_btree_Forest_walk f at' yield h Q ▸ hw')

/- 106: (*dunnage/btree.Forest).All$1 -/
def tab_btree_Forest_All_1 : Tab := ⟨[], [], []⟩
def wp_btree_Forest_All_1 (key : ByteArray) (r_0 : Int) (r_1 : Int) (r_2 : Int) (a2 : Option Addr) (h : Mem) (Q : Bool → Mem → Prop) : Prop :=
  New (Obj.cells #[Value.int IntKind.u64 r_0, Value.int IntKind.i64 r_1, Value.int IntKind.i64 r_2] ty_api_Ref) h fun (k1 : Nat) (h2 : Mem) =>
    Deref a2 fun (p3 : Addr) =>
      Ld PG ty_sl_api_Entry p3 (Kd.one (Cmp.leaf Leaf.sl)) h2 fun (s4 : Sl) =>
        Ld PG ty_api_Ref (Addr.mk k1 0 none) (Kd.one (Cmp.agg [Leaf.int IntKind.u64, Leaf.int IntKind.i64, Leaf.int IntKind.i64])) h2 fun (n5 n6 n7 : Int) =>
          New (Obj.cells #[Value.string key, Value.int IntKind.u64 n5, Value.int IntKind.i64 n6, Value.int IntKind.i64 n7] ty_api_Entry) h2 fun (k8 : Nat) (h9 : Mem) =>
            PrimT PG (Builtin.append_ #[ty_sl_api_Entry, ty_sl_api_Entry] ty_sl_api_Entry #[Value.slice s4.a s4.len s4.cap, Value.slice (some (Addr.mk k8 0 none)) 1 1]) (Kd.one (Cmp.leaf Leaf.sl)) h9
              fun (s10 : Sl) (h11 : Mem) => Deref a2 fun (p12 : Addr) => St PG ty_sl_api_Entry p12 (Value.slice s10.a s10.len s10.cap) h11 fun (h13 : Mem) => Q true h13
theorem eq_btree_Forest_All_1 (key : ByteArray) (r_0 : Int) (r_1 : Int) (r_2 : Int) (a2 : Option Addr) (h : Mem) (Q : Bool → Mem → Prop) : wp_btree_Forest_All_1 key r_0 r_1 r_2 a2 h Q = evFn PG fn_btree_Forest_All_1 tab_btree_Forest_All_1 [.string key, .agg #[.int .u64 r_0, .int .i64 r_1, .int .i64 r_2], .pointer a2] (.one (.leaf .bool)) h Q := by kernel_rfl
theorem ok_btree_Forest_All_1 : okF PG fn_btree_Forest_All_1 tab_btree_Forest_All_1 = true := by kernel_rfl
theorem call_btree_Forest_All_1 {key : ByteArray} {r_0 : Int} {r_1 : Int} {r_2 : Int} {a2 : Option Addr} {h : Mem} {Q : Bool → Mem → Prop} (hw' : wp_btree_Forest_All_1 key r_0 r_1 r_2 a2 h Q) : CallF PG fn_btree_Forest_All_1 [.string key, .agg #[.int .u64 r_0, .int .i64 r_1, .int .i64 r_2], .pointer a2] (.one (.leaf .bool)) h Q := callF_of PM ok_btree_Forest_All_1 (eq_btree_Forest_All_1 key r_0 r_1 r_2 a2 h Q ▸ hw')

/- 107: (*dunnage/btree.Forest).All$2; loop 1: [] -/
def tab_btree_Forest_All_2 : Tab := ⟨[(1, ⟨[(7, .leaf (.int .i64))], [4, 8, 9, 10, 11, 12, 13, 14, 15, 16, 17, 18]⟩)], [], []⟩
def wp_btree_Forest_All_2 (yield : Value) (a1 : Option Addr) (h : Mem) (Q : Mem → Prop) : Prop :=
  Deref a1 fun (p1 : Addr) =>
    Ld PG ty_sl_api_Entry p1 (Kd.one (Cmp.leaf Leaf.sl)) h fun (s2 : Sl) =>
      ∃ (I3 : Int → Mem → Prop),
        ∃ (I4 : Int → Mem → Nat),
          I3 0 h ∧
            ∀ (j5 : Fr) (n6 : Int) (h7 : Mem),
              I3 n6 h7 →
                Br (decide (n6 < (↑s2.len : Int)))
                  (Idx s2.a s2.len n6 fun (p8 : Addr) =>
                    Ld PG ty_api_Entry (p8.add (n6.toNat * 4)) (Kd.one (Cmp.agg [Leaf.str, Leaf.int IntKind.u64, Leaf.int IntKind.i64, Leaf.int IntKind.i64])) h7
                      fun (t9 : ByteArray) (n10 n11 n12 : Int) =>
                      New (Obj.cells #[Value.string (ByteArray.mk #[]), Value.int IntKind.u64 0, Value.int IntKind.i64 0, Value.int IntKind.i64 0] ty_api_Entry) h7
                        fun (k13 : Nat) (h14 : Mem) =>
                        St PG ty_api_Entry (Addr.mk k13 0 none) (Value.agg #[Value.string t9, Value.int IntKind.u64 n10, Value.int IntKind.i64 n11, Value.int IntKind.i64 n12]) h14
                          fun (h15 : Mem) =>
                          Ld PG ty_string (Addr.mk k13 0 none) (Kd.one (Cmp.leaf Leaf.str)) h15 fun (t16 : ByteArray) =>
                            Ld PG ty_api_Ref ((Addr.mk k13 0 none).add 1) (Kd.one (Cmp.agg [Leaf.int IntKind.u64, Leaf.int IntKind.i64, Leaf.int IntKind.i64])) h15
                              fun (n17 n18 n19 : Int) =>
                              CallV PG yield [Value.string t16, Value.agg #[Value.int IntKind.u64 n17, Value.int IntKind.i64 n18, Value.int IntKind.i64 n19]]
                                (Kd.one (Cmp.leaf Leaf.bool)) h15 fun (b20 : Bool) (h21 : Mem) =>
                                Br (!b20) (Q h21) (I3 (IntKind.i64.wrap (n6 + 1)) h21 ∧ I4 (IntKind.i64.wrap (n6 + 1)) h21 < I4 n6 h7))
                  (Q h7)
theorem eq_btree_Forest_All_2 (yield : Value) (a1 : Option Addr) (h : Mem) (Q : Mem → Prop) : wp_btree_Forest_All_2 yield a1 h Q = evFn PG fn_btree_Forest_All_2 tab_btree_Forest_All_2 [yield, .pointer a1] (.tup []) h Q := by kernel_rfl
theorem ok_btree_Forest_All_2 : okF PG fn_btree_Forest_All_2 tab_btree_Forest_All_2 = true := by kernel_rfl
theorem call_btree_Forest_All_2 {yield : Value} {a1 : Option Addr} {h : Mem} {Q : Mem → Prop} (hw' : wp_btree_Forest_All_2 yield a1 h Q) : CallF PG fn_btree_Forest_All_2 [yield, .pointer a1] (.tup []) h Q := callF_of PM ok_btree_Forest_All_2 (eq_btree_Forest_All_2 yield a1 h Q ▸ hw')

/- 108: (*dunnage/btree.leaf).insert -/
def tab_btree_leaf_insert : Tab := ⟨[], [], []⟩
def wp_btree_leaf_insert (l : Option Addr) (i : Int) (key : ByteArray) (r_0 : Int) (r_1 : Int) (r_2 : Int) (h : Mem) (Q : Mem → Prop) : Prop :=
  New (Obj.cells #[Value.int IntKind.u64 r_0, Value.int IntKind.i64 r_1, Value.int IntKind.i64 r_2] ty_api_Ref) h fun (k1 : Nat) (h2 : Mem) =>
    Deref l fun (p3 : Addr) =>
      Ld PG ty_sl_string p3 (Kd.one (Cmp.leaf Leaf.sl)) h2 fun (s4 : Sl) =>
        New (Obj.cells #[Value.string key] ty_string) h2 fun (k5 : Nat) (h6 : Mem) =>
          CallF PG fn_slices_Insert_string_string_ [Value.slice s4.a s4.len s4.cap, Value.int IntKind.i64 i, Value.slice (some (Addr.mk k5 0 none)) 1 1] (Kd.one (Cmp.leaf Leaf.sl)) h6
            fun (s7 : Sl) (h8 : Mem) =>
            Deref l fun (p9 : Addr) =>
              St PG ty_sl_string p9 (Value.slice s7.a s7.len s7.cap) h8 fun (h10 : Mem) =>
                Deref l fun (p11 : Addr) =>
                  Ld PG ty_sl_api_Ref (p11.add 1) (Kd.one (Cmp.leaf Leaf.sl)) h10 fun (s12 : Sl) =>
                    Ld PG ty_api_Ref (Addr.mk k1 0 none) (Kd.one (Cmp.agg [Leaf.int IntKind.u64, Leaf.int IntKind.i64, Leaf.int IntKind.i64])) h10 fun (n13 n14 n15 : Int) =>
                      New (Obj.cells #[Value.int IntKind.u64 n13, Value.int IntKind.i64 n14, Value.int IntKind.i64 n15] ty_api_Ref) h10 fun (k16 : Nat) (h17 : Mem) =>
                        (Ld PG ty_sl_api_Ref (p11.add 1) (Kd.one (Cmp.leaf Leaf.sl)) h17 fun (s18 : Sl) => Value.slice s18.a s18.len s18.cap = Value.slice s12.a s12.len s12.cap) ∧
                          CallF PG fn_slices_Insert_api_Ref_api_Ref_ [Value.slice s12.a s12.len s12.cap, Value.int IntKind.i64 i, Value.slice (some (Addr.mk k16 0 none)) 1 1] (Kd.one (Cmp.leaf Leaf.sl))
                            h17 fun (s19 : Sl) (h20 : Mem) => Deref l fun (p21 : Addr) => St PG ty_sl_api_Ref (p21.add 1) (Value.slice s19.a s19.len s19.cap) h20 fun (h22 : Mem) => Q h22
theorem eq_btree_leaf_insert (l : Option Addr) (i : Int) (key : ByteArray) (r_0 : Int) (r_1 : Int) (r_2 : Int) (h : Mem) (Q : Mem → Prop) : wp_btree_leaf_insert l i key r_0 r_1 r_2 h Q = evFn PG fn_btree_leaf_insert tab_btree_leaf_insert [.pointer l, .int .i64 i, .string key, .agg #[.int .u64 r_0, .int .i64 r_1, .int .i64 r_2]] (.tup []) h Q := by kernel_rfl
theorem ok_btree_leaf_insert : okF PG fn_btree_leaf_insert tab_btree_leaf_insert = true := by kernel_rfl
theorem call_btree_leaf_insert {l : Option Addr} {i : Int} {key : ByteArray} {r_0 : Int} {r_1 : Int} {r_2 : Int} {h : Mem} {Q : Mem → Prop} (hw' : wp_btree_leaf_insert l i key r_0 r_1 r_2 h Q) : CallF PG fn_btree_leaf_insert [.pointer l, .int .i64 i, .string key, .agg #[.int .u64 r_0, .int .i64 r_1, .int .i64 r_2]] (.tup []) h Q := callF_of PM ok_btree_leaf_insert (eq_btree_leaf_insert l i key r_0 r_1 r_2 h Q ▸ hw')

/- 109: slices.Insert[[]int,int] -/
def tab_slices_Insert_int_int_ : Tab := ⟨[], [], []⟩
def wp_slices_Insert_int_int_ (s : Sl) (i : Int) (v : Sl) (h : Mem) (Q : Sl → Mem → Prop) : Prop :=
  Cut 1 s.a s.len s.cap (some i) none none fun (s1 : Sl) =>
    Br ((↑v.len : Int) == 0) (Q (Sl.mk s.a s.len s.cap) h)
      (Br (i == (↑s.len : Int))
        (PrimT PG (Builtin.append_ #[ty_sl_int, ty_sl_int] ty_sl_int #[Value.slice s.a s.len s.cap, Value.slice v.a v.len v.cap]) (Kd.one (Cmp.leaf Leaf.sl)) h fun (s2 : Sl) (h3 : Mem) =>
          Q (Sl.mk s2.a s2.len s2.cap) h3)
        (Br (decide (IntKind.i64.wrap ((↑s.len : Int) + (↑v.len : Int)) > (↑s.cap : Int)))
          (Cut 1 s.a s.len s.cap none (some i) none fun (s4 : Sl) =>
            PrimT PG
              (Builtin.append_ #[ty_sl_int, ty_int] ty_sl_int #[Value.slice s4.a s4.len s4.cap, Value.int IntKind.i64 (IntKind.i64.wrap (IntKind.i64.wrap ((↑s.len : Int) + (↑v.len : Int)) - i))])
              (Kd.one (Cmp.leaf Leaf.sl)) h fun (s5 : Sl) (h6 : Mem) =>
              Cut 1 s5.a s5.len s5.cap (some i) none none fun (s7 : Sl) =>
                PrimT PG (Builtin.copy_ #[ty_sl_int, ty_sl_int] ty_int #[Value.slice s7.a s7.len s7.cap, Value.slice v.a v.len v.cap]) (Kd.one (Cmp.leaf (Leaf.int IntKind.i64))) h6
                  fun (n8 : Int) (h9 : Mem) =>
                  Cut 1 s5.a s5.len s5.cap (some (IntKind.i64.wrap (i + (↑v.len : Int)))) none none fun (s10 : Sl) =>
                    Cut 1 s.a s.len s.cap (some i) none none fun (s11 : Sl) =>
                      PrimT PG (Builtin.copy_ #[ty_sl_int, ty_sl_int] ty_int #[Value.slice s10.a s10.len s10.cap, Value.slice s11.a s11.len s11.cap]) (Kd.one (Cmp.leaf (Leaf.int IntKind.i64)))
                        h9 fun (n12 : Int) (h13 : Mem) => Q (Sl.mk s5.a s5.len s5.cap) h13)
          (Cut 1 s.a s.len s.cap none (some (IntKind.i64.wrap ((↑s.len : Int) + (↑v.len : Int)))) none fun (s14 : Sl) =>
            Cut 1 s14.a s14.len s14.cap (some (IntKind.i64.wrap (i + (↑v.len : Int)))) none none fun (s15 : Sl) =>
              CallF PG 142  [Value.slice v.a v.len v.cap, Value.slice s15.a s15.len s15.cap] (Kd.one (Cmp.leaf Leaf.bool)) h fun (b16 : Bool) (h17 : Mem) =>
                Br (!b16)
                  (Cut 1 s14.a s14.len s14.cap (some (IntKind.i64.wrap (i + (↑v.len : Int)))) none none fun (s18 : Sl) =>
                    Cut 1 s14.a s14.len s14.cap (some i) none none fun (s19 : Sl) =>
                      PrimT PG (Builtin.copy_ #[ty_sl_int, ty_sl_int] ty_int #[Value.slice s18.a s18.len s18.cap, Value.slice s19.a s19.len s19.cap]) (Kd.one (Cmp.leaf (Leaf.int IntKind.i64)))
                        h17 fun (n20 : Int) (h21 : Mem) =>
                        Cut 1 s14.a s14.len s14.cap (some i) none none fun (s22 : Sl) =>
                          PrimT PG (Builtin.copy_ #[ty_sl_int, ty_sl_int] ty_int #[Value.slice s22.a s22.len s22.cap, Value.slice v.a v.len v.cap]) (Kd.one (Cmp.leaf (Leaf.int IntKind.i64))) h21
                            fun (n23 : Int) (h24 : Mem) => Q (Sl.mk s14.a s14.len s14.cap) h24)
                  (Cut 1 s14.a s14.len s14.cap (some (↑s.len : Int)) none none fun (s25 : Sl) =>
                    PrimT PG (Builtin.copy_ #[ty_sl_int, ty_sl_int] ty_int #[Value.slice s25.a s25.len s25.cap, Value.slice v.a v.len v.cap]) (Kd.one (Cmp.leaf (Leaf.int IntKind.i64))) h17
                      fun (n26 : Int) (h27 : Mem) =>
                      Cut 1 s14.a s14.len s14.cap (some i) none none fun (s28 : Sl) =>
                        CallF PG fn_slices_rotateRight_int_ [Value.slice s28.a s28.len s28.cap, Value.int IntKind.i64 (↑v.len : Int)] (Kd.tup []) h27 fun (h29 : Mem) =>
                          Q (Sl.mk s14.a s14.len s14.cap) h29))))
theorem eq_slices_Insert_int_int_ (s : Sl) (i : Int) (v : Sl) (h : Mem) (Q : Sl → Mem → Prop) : wp_slices_Insert_int_int_ s i v h Q = evFn PG fn_slices_Insert_int_int_ tab_slices_Insert_int_int_ [.slice s.a s.len s.cap, .int .i64 i, .slice v.a v.len v.cap] (.one (.leaf .sl)) h Q := by kernel_rfl
theorem ok_slices_Insert_int_int_ : okF PG fn_slices_Insert_int_int_ tab_slices_Insert_int_int_ = true := by kernel_rfl
theorem call_slices_Insert_int_int_ {s : Sl} {i : Int} {v : Sl} {h : Mem} {Q : Sl → Mem → Prop} (hw' : wp_slices_Insert_int_int_ s i v h Q) : CallF PG fn_slices_Insert_int_int_ [.slice s.a s.len s.cap, .int .i64 i, .slice v.a v.len v.cap] (.one (.leaf .sl)) h Q := callF_of PM ok_slices_Insert_int_int_ (eq_slices_Insert_int_int_ s i v h Q ▸ hw')

/- 110: (*dunnage/btree.Forest).split -/
def tab_btree_Forest_split : Tab := ⟨[], [], []⟩
def wp_btree_Forest_split (f : Option Addr) (n_0 : Sl) (n_1 : Sl) (n_2 : Sl) (h : Mem) (Q : Int → Int → ByteArray → Int → Int → Int → Int → Mem → Prop) : Prop :=
  New (Obj.cells #[Value.slice n_0.a n_0.len n_0.cap, Value.slice n_1.a n_1.len n_1.cap, Value.slice n_2.a n_2.len n_2.cap] ty_btree_node) h fun (k1 : Nat) (h2 : Mem) =>
    New
      (Obj.cells #[Value.int IntKind.i64 0, Value.int IntKind.i64 0, Value.string (ByteArray.mk #[]), Value.int IntKind.u64 0, Value.int IntKind.i64 0, Value.int IntKind.i64 0] 122)
      h2 fun (k3 : Nat) (h4 : Mem) =>
      Ld PG ty_sl_string (Addr.mk k1 0 none) (Kd.one (Cmp.leaf Leaf.sl)) h4 fun (s5 : Sl) =>
        Br (decide ((↑s5.len : Int) ≤ 7))
          (Ld PG ty_btree_node (Addr.mk k1 0 none) (Kd.one (Cmp.agg [Leaf.sl, Leaf.sl, Leaf.sl])) h4 fun (s6 s7 s8 : Sl) =>
            CallF PG fn_btree_Forest_keep [Value.pointer f, Value.agg #[Value.slice s6.a s6.len s6.cap, Value.slice s7.a s7.len s7.cap, Value.slice s8.a s8.len s8.cap]]
              (Kd.tup [Cmp.leaf (Leaf.int IntKind.i64), Cmp.leaf (Leaf.int IntKind.i64)]) h4 fun (n9 n10 : Int) (h11 : Mem) =>
              St PG ty_btree_halves (Addr.mk k3 0 none)
                (Value.agg
                  #[Value.int IntKind.i64 n9, Value.int IntKind.i64 0, Value.string (ByteArray.mk #[]), Value.int IntKind.u64 0, Value.int IntKind.i64 0, Value.int IntKind.i64 0])
                h11 fun (h12 : Mem) =>
                Ld PG ty_btree_halves (Addr.mk k3 0 none)
                  (Kd.one (Cmp.agg [Leaf.int IntKind.i64, Leaf.int IntKind.i64, Leaf.str, Leaf.int IntKind.u64, Leaf.int IntKind.i64, Leaf.int IntKind.i64])) h12
                  fun (n13 n14 : Int) (t15 : ByteArray) (n16 n17 n18 : Int) => Q n13 n14 t15 n16 n17 n18 n10 h12)
          (Ld PG ty_sl_string (Addr.mk k1 0 none) (Kd.one (Cmp.leaf Leaf.sl)) h4 fun (s19 : Sl) =>
            CallF PG fn_btree_node_part [Value.pointer (some (Addr.mk k1 0 none)), Value.int IntKind.i64 0, Value.int IntKind.i64 (IntKind.i64.wrap ((↑s19.len : Int).tdiv 2))]
              (Kd.one (Cmp.agg [Leaf.sl, Leaf.sl, Leaf.sl])) h4 fun (s20 s21 s22 : Sl) (h23 : Mem) =>
              CallF PG fn_btree_Forest_keep [Value.pointer f, Value.agg #[Value.slice s20.a s20.len s20.cap, Value.slice s21.a s21.len s21.cap, Value.slice s22.a s22.len s22.cap]]
                (Kd.tup [Cmp.leaf (Leaf.int IntKind.i64), Cmp.leaf (Leaf.int IntKind.i64)]) h23 fun (n24 n25 : Int) (h26 : Mem) =>
                Br (n25 != 0)
                  (St PG ty_btree_halves (Addr.mk k3 0 none)
                    (Value.agg
                      #[Value.int IntKind.i64 0, Value.int IntKind.i64 0, Value.string (ByteArray.mk #[]), Value.int IntKind.u64 0, Value.int IntKind.i64 0, Value.int IntKind.i64 0])
                    h26 fun (h27 : Mem) =>
                    Ld PG ty_btree_halves (Addr.mk k3 0 none)
                      (Kd.one (Cmp.agg [Leaf.int IntKind.i64, Leaf.int IntKind.i64, Leaf.str, Leaf.int IntKind.u64, Leaf.int IntKind.i64, Leaf.int IntKind.i64])) h27
                      fun (n28 n29 : Int) (t30 : ByteArray) (n31 n32 n33 : Int) => Q n28 n29 t30 n31 n32 n33 n25 h27)
                  (Ld PG ty_sl_string (Addr.mk k1 0 none) (Kd.one (Cmp.leaf Leaf.sl)) h26 fun (s34 : Sl) =>
                    CallF PG fn_btree_node_part 
                      [Value.pointer (some (Addr.mk k1 0 none)), Value.int IntKind.i64 (IntKind.i64.wrap (IntKind.i64.wrap ((↑s19.len : Int).tdiv 2) + 1)),
                        Value.int IntKind.i64 (↑s34.len : Int)]
                      (Kd.one (Cmp.agg [Leaf.sl, Leaf.sl, Leaf.sl])) h26 fun (s35 s36 s37 : Sl) (h38 : Mem) =>
                      CallF PG fn_btree_Forest_keep [Value.pointer f, Value.agg #[Value.slice s35.a s35.len s35.cap, Value.slice s36.a s36.len s36.cap, Value.slice s37.a s37.len s37.cap]]
                        (Kd.tup [Cmp.leaf (Leaf.int IntKind.i64), Cmp.leaf (Leaf.int IntKind.i64)]) h38 fun (n39 n40 : Int) (h41 : Mem) =>
                        Ld PG ty_sl_string (Addr.mk k1 0 none) (Kd.one (Cmp.leaf Leaf.sl)) h41 fun (s42 : Sl) =>
                          Idx s42.a s42.len (IntKind.i64.wrap ((↑s19.len : Int).tdiv 2)) fun (p43 : Addr) =>
                            Ld PG ty_string (p43.add ((IntKind.i64.wrap ((↑s19.len : Int).tdiv 2)).toNat * 1)) (Kd.one (Cmp.leaf Leaf.str)) h41 fun (t44 : ByteArray) =>
                              Ld PG ty_sl_api_Ref ((Addr.mk k1 0 none).add 1) (Kd.one (Cmp.leaf Leaf.sl)) h41 fun (s45 : Sl) =>
                                Idx s45.a s45.len (IntKind.i64.wrap ((↑s19.len : Int).tdiv 2)) fun (p46 : Addr) =>
                                  Ld PG ty_api_Ref (p46.add ((IntKind.i64.wrap ((↑s19.len : Int).tdiv 2)).toNat * 3))
                                    (Kd.one (Cmp.agg [Leaf.int IntKind.u64, Leaf.int IntKind.i64, Leaf.int IntKind.i64])) h41 fun (n47 n48 n49 : Int) =>
                                    St PG ty_btree_halves (Addr.mk k3 0 none)
                                      (Value.agg
                                        #[Value.int IntKind.i64 n24, Value.int IntKind.i64 n39, Value.string t44, Value.int IntKind.u64 n47, Value.int IntKind.i64 n48,
                                          Value.int IntKind.i64 n49])
                                      h41 fun (h50 : Mem) =>
                                      Ld PG ty_btree_halves (Addr.mk k3 0 none)
                                        (Kd.one (Cmp.agg [Leaf.int IntKind.i64, Leaf.int IntKind.i64, Leaf.str, Leaf.int IntKind.u64, Leaf.int IntKind.i64, Leaf.int IntKind.i64]))
                                        h50 fun (n51 n52 : Int) (t53 : ByteArray) (n54 n55 n56 : Int) => Q n51 n52 t53 n54 n55 n56 n40 h50))
theorem eq_btree_Forest_split (f : Option Addr) (n_0 : Sl) (n_1 : Sl) (n_2 : Sl) (h : Mem) (Q : Int → Int → ByteArray → Int → Int → Int → Int → Mem → Prop) : wp_btree_Forest_split f n_0 n_1 n_2 h Q = evFn PG fn_btree_Forest_split tab_btree_Forest_split [.pointer f, .agg #[.slice n_0.a n_0.len n_0.cap, .slice n_1.a n_1.len n_1.cap, .slice n_2.a n_2.len n_2.cap]] (.tup [(.agg [(.int .i64), (.int .i64), .str, (.int .u64), (.int .i64), (.int .i64)]), (.leaf (.int .i64))]) h Q := by kernel_rfl
theorem ok_btree_Forest_split : okF PG fn_btree_Forest_split tab_btree_Forest_split = true := by kernel_rfl
theorem call_btree_Forest_split {f : Option Addr} {n_0 : Sl} {n_1 : Sl} {n_2 : Sl} {h : Mem} {Q : Int → Int → ByteArray → Int → Int → Int → Int → Mem → Prop} (hw' : wp_btree_Forest_split f n_0 n_1 n_2 h Q) : CallF PG fn_btree_Forest_split [.pointer f, .agg #[.slice n_0.a n_0.len n_0.cap, .slice n_1.a n_1.len n_1.cap, .slice n_2.a n_2.len n_2.cap]] (.tup [(.agg [(.int .i64), (.int .i64), .str, (.int .u64), (.int .i64), (.int .i64)]), (.leaf (.int .i64))]) h Q := callF_of PM ok_btree_Forest_split (eq_btree_Forest_split f n_0 n_1 n_2 h Q ▸ hw')

/- 117: (*dunnage/btree.node).words; loop 3: [w, ]; loop 7: [w, k]; loop 11: [v, j] -/
def tab_btree_node_words : Tab := ⟨[(3, ⟨[(3, .leaf .sl), (16, .leaf (.int .i64))], [4, 5, 6, 7, 8, 9, 17, 18, 19, 20, 21, 22, 23, 24, 25, 26, 27, 28, 29, 30, 31, 32, 33, 34, 35, 36, 37, 38, 39, 40, 41, 42, 43, 44, 45, 46, 47, 48, 49, 50, 51, 52, 53, 54, 55, 56, 57, 58, 59, 60, 61, 62, 63, 64, 65, 66, 67, 68, 69, 70, 71, 72, 73, 74, 75, 76, 77, 78, 79, 80, 81, 82]⟩), (7, ⟨[(3, .leaf .sl), (6, .leaf (.int .i64))], [7, 8, 27, 28, 29, 30, 31, 32, 33, 34, 35, 36, 37, 38, 39, 40, 41, 42, 43, 44, 45, 46, 47, 48, 49, 50, 51, 52, 53, 54, 55, 56, 57]⟩), (11, ⟨[(7, .leaf (.int .u32)), (8, .leaf (.int .i64))], [34, 35, 36, 37, 38, 39, 40, 41, 42, 43, 44, 45, 46, 47, 48, 49, 50, 51, 52, 53]⟩)], [], []⟩
def wp_btree_node_words (n : Option Addr) (h : Mem) (Q : Sl → Mem → Prop) : Prop :=
  Deref n fun (p1 : Addr) =>
    Ld PG ty_sl_string p1 (Kd.one (Cmp.leaf Leaf.sl)) h fun (s2 : Sl) =>
      ∃ (I3 : Sl → Int → Mem → Prop),
        ∃ (I4 : Sl → Int → Mem → Nat),
          I3 (Sl.mk none 0 0) 0 h ∧
            ∀ (j5 : Fr) (s6 : Sl) (n7 : Int) (h8 : Mem),
              I3 s6 n7 h8 →
                Br (decide (n7 < (↑s2.len : Int)))
                  (Idx s2.a s2.len n7 fun (p9 : Addr) =>
                    Ld PG ty_string (p9.add (n7.toNat * 1)) (Kd.one (Cmp.leaf Leaf.str)) h8 fun (t10 : ByteArray) =>
                      New (Obj.cells #[Value.int IntKind.u32 (IntKind.u32.wrap (↑t10.size : Int))] ty_uint32) h8 fun (k11 : Nat) (h12 : Mem) =>
                        PrimT PG (Builtin.append_ #[ty_sl_uint32, ty_sl_uint32] ty_sl_uint32 #[Value.slice s6.a s6.len s6.cap, Value.slice (some (Addr.mk k11 0 none)) 1 1]) (Kd.one (Cmp.leaf Leaf.sl))
                          h12 fun (s13 : Sl) (h14 : Mem) =>
                          ∃ (I15 : Sl → Int → Mem → Prop),
                            ∃ (I16 : Sl → Int → Mem → Nat),
                              I15 (Sl.mk s13.a s13.len s13.cap) 0 h14 ∧
                                ∀ (j17 : Fr) (s18 : Sl) (n19 : Int) (h20 : Mem),
                                  I15 s18 n19 h20 →
                                    Br (decide (n19 < (↑t10.size : Int)))
                                      (∃ (I21 : Int → Int → Mem → Prop),
                                        ∃ (I22 : Int → Int → Mem → Nat),
                                          I21 0 n19 h20 ∧
                                            ∀ (j23 : Fr) (n24 n25 : Int) (h26 : Mem),
                                              I21 n24 n25 h26 →
                                                Br (decide (n25 < if (↑t10.size : Int) < IntKind.i64.wrap (n19 + 4) then (↑t10.size : Int) else IntKind.i64.wrap (n19 + 4)))
                                                  (IdxS t10 n25 fun (n27 : Int) =>
                                                    Chk (decide (0 ≤ IntKind.i64.wrap (8 * IntKind.i64.wrap (n25 - n19))))
                                                      (I21
                                                          (bitsOf BinOp.or IntKind.u32 n24
                                                            (IntKind.u32.wrap (IntKind.u32.wrap n27 * 2 ^ shN IntKind.u32 (IntKind.i64.wrap (8 * IntKind.i64.wrap (n25 - n19))))))
                                                          (IntKind.i64.wrap (n25 + 1)) h26 ∧
                                                        I22
                                                            (bitsOf BinOp.or IntKind.u32 n24
                                                              (IntKind.u32.wrap (IntKind.u32.wrap n27 * 2 ^ shN IntKind.u32 (IntKind.i64.wrap (8 * IntKind.i64.wrap (n25 - n19))))))
                                                            (IntKind.i64.wrap (n25 + 1)) h26 <
                                                          I22 n24 n25 h26))
                                                  (New (Obj.cells #[Value.int IntKind.u32 n24] ty_uint32) h26 fun (k28 : Nat) (h29 : Mem) =>
                                                    PrimT PG
                                                      (Builtin.append_ #[ty_sl_uint32, ty_sl_uint32] ty_sl_uint32 #[Value.slice s18.a s18.len s18.cap, Value.slice (some (Addr.mk k28 0 none)) 1 1])
                                                      (Kd.one (Cmp.leaf Leaf.sl)) h29 fun (s30 : Sl) (h31 : Mem) =>
                                                      I15 (Sl.mk s30.a s30.len s30.cap) (IntKind.i64.wrap (n19 + 4)) h31 ∧
                                                        I16 (Sl.mk s30.a s30.len s30.cap) (IntKind.i64.wrap (n19 + 4)) h31 < I16 s18 n19 h20))
                                      (Deref n fun (p32 : Addr) =>
                                        Ld PG ty_sl_api_Ref (p32.add 1) (Kd.one (Cmp.leaf Leaf.sl)) h20 fun (s33 : Sl) =>
                                          Idx s33.a s33.len n7 fun (p34 : Addr) =>
                                            Ld PG ty_api_Ref (p34.add (n7.toNat * 3)) (Kd.one (Cmp.agg [Leaf.int IntKind.u64, Leaf.int IntKind.i64, Leaf.int IntKind.i64])) h20
                                              fun (n35 n36 n37 : Int) =>
                                              New (Obj.cells #[Value.int IntKind.u64 0, Value.int IntKind.i64 0, Value.int IntKind.i64 0] ty_api_Ref) h20 fun (k38 : Nat) (h39 : Mem) =>
                                                St PG ty_api_Ref (Addr.mk k38 0 none) (Value.agg #[Value.int IntKind.u64 n35, Value.int IntKind.i64 n36, Value.int IntKind.i64 n37])
                                                  h39 fun (h40 : Mem) =>
                                                  Ld PG ty_uint64 (Addr.mk k38 0 none) (Kd.one (Cmp.leaf (Leaf.int IntKind.u64))) h40 fun (n41 : Int) =>
                                                    Ld PG ty_uint64 (Addr.mk k38 0 none) (Kd.one (Cmp.leaf (Leaf.int IntKind.u64))) h40 fun (n42 : Int) =>
                                                      Ld PG ty_int ((Addr.mk k38 0 none).add 1) (Kd.one (Cmp.leaf (Leaf.int IntKind.i64))) h40 fun (n43 : Int) =>
                                                        Ld PG ty_int ((Addr.mk k38 0 none).add 2) (Kd.one (Cmp.leaf (Leaf.int IntKind.i64))) h40 fun (n44 : Int) =>
                                                          New
                                                            (Obj.cells
                                                              #[Value.int IntKind.u32 (IntKind.u32.wrap n41),
                                                                Value.int IntKind.u32 (IntKind.u32.wrap (n42.fdiv (Int.ofNat 4294967296))),
                                                                Value.int IntKind.u32 (IntKind.u32.wrap n43), Value.int IntKind.u32 (IntKind.u32.wrap n44)]
                                                              160)
                                                            h40 fun (k45 : Nat) (h46 : Mem) =>
                                                            PrimT PG
                                                              (Builtin.append_ #[ty_sl_uint32, ty_sl_uint32] ty_sl_uint32 #[Value.slice s18.a s18.len s18.cap, Value.slice (some (Addr.mk k45 0 none)) 4 4])
                                                              (Kd.one (Cmp.leaf Leaf.sl)) h46 fun (s47 : Sl) (h48 : Mem) =>
                                                              I3 (Sl.mk s47.a s47.len s47.cap) (IntKind.i64.wrap (n7 + 1)) h48 ∧
                                                                I4 (Sl.mk s47.a s47.len s47.cap) (IntKind.i64.wrap (n7 + 1)) h48 < I4 s6 n7 h8))
                  (Q (Sl.mk s6.a s6.len s6.cap) h8)
theorem eq_btree_node_words (n : Option Addr) (h : Mem) (Q : Sl → Mem → Prop) : wp_btree_node_words n h Q = evFn PG fn_btree_node_words tab_btree_node_words [.pointer n] (.one (.leaf .sl)) h Q := by kernel_rfl
theorem ok_btree_node_words : okF PG fn_btree_node_words tab_btree_node_words = true := by kernel_rfl
theorem call_btree_node_words {n : Option Addr} {h : Mem} {Q : Sl → Mem → Prop} (hw' : wp_btree_node_words n h Q) : CallF PG fn_btree_node_words [.pointer n] (.one (.leaf .sl)) h Q := callF_of PM ok_btree_node_words (eq_btree_node_words n h Q ▸ hw')

/- 138: cmp.Less[string] -/
def tab_cmp_Less_string_ : Tab := ⟨[], [], []⟩
def wp_cmp_Less_string_ (x : ByteArray) (y : ByteArray) (h : Mem) (Q : Bool → Mem → Prop) : Prop :=
  CallF PG fn_cmp_isNaN_string_ [Value.string x] (Kd.one (Cmp.leaf Leaf.bool)) h fun (b1 : Bool) (h2 : Mem) =>
    Br b1 (CallF PG fn_cmp_isNaN_string_ [Value.string y] (Kd.one (Cmp.leaf Leaf.bool)) h2 fun (b3 : Bool) (h4 : Mem) => Br (!b3) (Q true h4) (Q (sLt x y) h4)) (Q (sLt x y) h2)
theorem eq_cmp_Less_string_ (x : ByteArray) (y : ByteArray) (h : Mem) (Q : Bool → Mem → Prop) : wp_cmp_Less_string_ x y h Q = evFn PG fn_cmp_Less_string_ tab_cmp_Less_string_ [.string x, .string y] (.one (.leaf .bool)) h Q := by kernel_rfl
theorem ok_cmp_Less_string_ : okF PG fn_cmp_Less_string_ tab_cmp_Less_string_ = true := by kernel_rfl
theorem call_cmp_Less_string_ {x : ByteArray} {y : ByteArray} {h : Mem} {Q : Bool → Mem → Prop} (hw' : wp_cmp_Less_string_ x y h Q) : CallF PG fn_cmp_Less_string_ [.string x, .string y] (.one (.leaf .bool)) h Q := callF_of PM ok_cmp_Less_string_ (eq_cmp_Less_string_ x y h Q ▸ hw')

/- 139: slices.isNaN[string] -/
def tab_slices_isNaN_string_ : Tab := ⟨[], [], []⟩
def wp_slices_isNaN_string_ (x : ByteArray) (h : Mem) (Q : Bool → Mem → Prop) : Prop :=
  Q (!sEq x x) h
theorem eq_slices_isNaN_string_ (x : ByteArray) (h : Mem) (Q : Bool → Mem → Prop) : wp_slices_isNaN_string_ x h Q = evFn PG fn_slices_isNaN_string_ tab_slices_isNaN_string_ [.string x] (.one (.leaf .bool)) h Q := by kernel_rfl
theorem ok_slices_isNaN_string_ : okF PG fn_slices_isNaN_string_ tab_slices_isNaN_string_ = true := by kernel_rfl
theorem call_slices_isNaN_string_ {x : ByteArray} {h : Mem} {Q : Bool → Mem → Prop} (hw' : wp_slices_isNaN_string_ x h Q) : CallF PG fn_slices_isNaN_string_ [.string x] (.one (.leaf .bool)) h Q := callF_of PM ok_slices_isNaN_string_ (eq_slices_isNaN_string_ x h Q ▸ hw')

/- 140: slices.Insert[[]string,string] -/
def tab_slices_Insert_string_string_ : Tab := ⟨[], [], []⟩
def wp_slices_Insert_string_string_ (s : Sl) (i : Int) (v : Sl) (h : Mem) (Q : Sl → Mem → Prop) : Prop :=
  Cut 1 s.a s.len s.cap (some i) none none fun (s1 : Sl) =>
    Br ((↑v.len : Int) == 0) (Q (Sl.mk s.a s.len s.cap) h)
      (Br (i == (↑s.len : Int))
        (PrimT PG (Builtin.append_ #[ty_sl_string, ty_sl_string] ty_sl_string #[Value.slice s.a s.len s.cap, Value.slice v.a v.len v.cap]) (Kd.one (Cmp.leaf Leaf.sl)) h fun (s2 : Sl) (h3 : Mem) =>
          Q (Sl.mk s2.a s2.len s2.cap) h3)
        (Br (decide (IntKind.i64.wrap ((↑s.len : Int) + (↑v.len : Int)) > (↑s.cap : Int)))
          (Cut 1 s.a s.len s.cap none (some i) none fun (s4 : Sl) =>
            PrimT PG
              (Builtin.append_ #[ty_sl_string, ty_int] ty_sl_string #[Value.slice s4.a s4.len s4.cap, Value.int IntKind.i64 (IntKind.i64.wrap (IntKind.i64.wrap ((↑s.len : Int) + (↑v.len : Int)) - i))])
              (Kd.one (Cmp.leaf Leaf.sl)) h fun (s5 : Sl) (h6 : Mem) =>
              Cut 1 s5.a s5.len s5.cap (some i) none none fun (s7 : Sl) =>
                PrimT PG (Builtin.copy_ #[ty_sl_string, ty_sl_string] ty_int #[Value.slice s7.a s7.len s7.cap, Value.slice v.a v.len v.cap]) (Kd.one (Cmp.leaf (Leaf.int IntKind.i64))) h6
                  fun (n8 : Int) (h9 : Mem) =>
                  Cut 1 s5.a s5.len s5.cap (some (IntKind.i64.wrap (i + (↑v.len : Int)))) none none fun (s10 : Sl) =>
                    Cut 1 s.a s.len s.cap (some i) none none fun (s11 : Sl) =>
                      PrimT PG (Builtin.copy_ #[ty_sl_string, ty_sl_string] ty_int #[Value.slice s10.a s10.len s10.cap, Value.slice s11.a s11.len s11.cap]) (Kd.one (Cmp.leaf (Leaf.int IntKind.i64)))
                        h9 fun (n12 : Int) (h13 : Mem) => Q (Sl.mk s5.a s5.len s5.cap) h13)
          (Cut 1 s.a s.len s.cap none (some (IntKind.i64.wrap ((↑s.len : Int) + (↑v.len : Int)))) none fun (s14 : Sl) =>
            Cut 1 s14.a s14.len s14.cap (some (IntKind.i64.wrap (i + (↑v.len : Int)))) none none fun (s15 : Sl) =>
              CallF PG fn_slices_overlaps_string_ [Value.slice v.a v.len v.cap, Value.slice s15.a s15.len s15.cap] (Kd.one (Cmp.leaf Leaf.bool)) h fun (b16 : Bool) (h17 : Mem) =>
                Br (!b16)
                  (Cut 1 s14.a s14.len s14.cap (some (IntKind.i64.wrap (i + (↑v.len : Int)))) none none fun (s18 : Sl) =>
                    Cut 1 s14.a s14.len s14.cap (some i) none none fun (s19 : Sl) =>
                      PrimT PG (Builtin.copy_ #[ty_sl_string, ty_sl_string] ty_int #[Value.slice s18.a s18.len s18.cap, Value.slice s19.a s19.len s19.cap]) (Kd.one (Cmp.leaf (Leaf.int IntKind.i64)))
                        h17 fun (n20 : Int) (h21 : Mem) =>
                        Cut 1 s14.a s14.len s14.cap (some i) none none fun (s22 : Sl) =>
                          PrimT PG (Builtin.copy_ #[ty_sl_string, ty_sl_string] ty_int #[Value.slice s22.a s22.len s22.cap, Value.slice v.a v.len v.cap]) (Kd.one (Cmp.leaf (Leaf.int IntKind.i64))) h21
                            fun (n23 : Int) (h24 : Mem) => Q (Sl.mk s14.a s14.len s14.cap) h24)
                  (Cut 1 s14.a s14.len s14.cap (some (↑s.len : Int)) none none fun (s25 : Sl) =>
                    PrimT PG (Builtin.copy_ #[ty_sl_string, ty_sl_string] ty_int #[Value.slice s25.a s25.len s25.cap, Value.slice v.a v.len v.cap]) (Kd.one (Cmp.leaf (Leaf.int IntKind.i64))) h17
                      fun (n26 : Int) (h27 : Mem) =>
                      Cut 1 s14.a s14.len s14.cap (some i) none none fun (s28 : Sl) =>
                        CallF PG fn_slices_rotateRight_string_ [Value.slice s28.a s28.len s28.cap, Value.int IntKind.i64 (↑v.len : Int)] (Kd.tup []) h27 fun (h29 : Mem) =>
                          Q (Sl.mk s14.a s14.len s14.cap) h29))))
theorem eq_slices_Insert_string_string_ (s : Sl) (i : Int) (v : Sl) (h : Mem) (Q : Sl → Mem → Prop) : wp_slices_Insert_string_string_ s i v h Q = evFn PG fn_slices_Insert_string_string_ tab_slices_Insert_string_string_ [.slice s.a s.len s.cap, .int .i64 i, .slice v.a v.len v.cap] (.one (.leaf .sl)) h Q := by kernel_rfl
theorem ok_slices_Insert_string_string_ : okF PG fn_slices_Insert_string_string_ tab_slices_Insert_string_string_ = true := by kernel_rfl
theorem call_slices_Insert_string_string_ {s : Sl} {i : Int} {v : Sl} {h : Mem} {Q : Sl → Mem → Prop} (hw' : wp_slices_Insert_string_string_ s i v h Q) : CallF PG fn_slices_Insert_string_string_ [.slice s.a s.len s.cap, .int .i64 i, .slice v.a v.len v.cap] (.one (.leaf .sl)) h Q := callF_of PM ok_slices_Insert_string_string_ (eq_slices_Insert_string_string_ s i v h Q ▸ hw')

/- 141: slices.Insert[[]dunnage/api.Ref,dunnage/api.Ref] -/
def tab_slices_Insert_api_Ref_api_Ref_ : Tab := ⟨[], [], []⟩
def wp_slices_Insert_api_Ref_api_Ref_ (s : Sl) (i : Int) (v : Sl) (h : Mem) (Q : Sl → Mem → Prop) : Prop :=
  Cut 3 s.a s.len s.cap (some i) none none fun (s1 : Sl) =>
    Br ((↑v.len : Int) == 0) (Q (Sl.mk s.a s.len s.cap) h)
      (Br (i == (↑s.len : Int))
        (PrimT PG (Builtin.append_ #[ty_sl_api_Ref, ty_sl_api_Ref] ty_sl_api_Ref #[Value.slice s.a s.len s.cap, Value.slice v.a v.len v.cap]) (Kd.one (Cmp.leaf Leaf.sl)) h fun (s2 : Sl) (h3 : Mem) =>
          Q (Sl.mk s2.a s2.len s2.cap) h3)
        (Br (decide (IntKind.i64.wrap ((↑s.len : Int) + (↑v.len : Int)) > (↑s.cap : Int)))
          (Cut 3 s.a s.len s.cap none (some i) none fun (s4 : Sl) =>
            PrimT PG
              (Builtin.append_ #[ty_sl_api_Ref, ty_int] ty_sl_api_Ref #[Value.slice s4.a s4.len s4.cap, Value.int IntKind.i64 (IntKind.i64.wrap (IntKind.i64.wrap ((↑s.len : Int) + (↑v.len : Int)) - i))])
              (Kd.one (Cmp.leaf Leaf.sl)) h fun (s5 : Sl) (h6 : Mem) =>
              Cut 3 s5.a s5.len s5.cap (some i) none none fun (s7 : Sl) =>
                PrimT PG (Builtin.copy_ #[ty_sl_api_Ref, ty_sl_api_Ref] ty_int #[Value.slice s7.a s7.len s7.cap, Value.slice v.a v.len v.cap]) (Kd.one (Cmp.leaf (Leaf.int IntKind.i64))) h6
                  fun (n8 : Int) (h9 : Mem) =>
                  Cut 3 s5.a s5.len s5.cap (some (IntKind.i64.wrap (i + (↑v.len : Int)))) none none fun (s10 : Sl) =>
                    Cut 3 s.a s.len s.cap (some i) none none fun (s11 : Sl) =>
                      PrimT PG (Builtin.copy_ #[ty_sl_api_Ref, ty_sl_api_Ref] ty_int #[Value.slice s10.a s10.len s10.cap, Value.slice s11.a s11.len s11.cap]) (Kd.one (Cmp.leaf (Leaf.int IntKind.i64)))
                        h9 fun (n12 : Int) (h13 : Mem) => Q (Sl.mk s5.a s5.len s5.cap) h13)
          (Cut 3 s.a s.len s.cap none (some (IntKind.i64.wrap ((↑s.len : Int) + (↑v.len : Int)))) none fun (s14 : Sl) =>
            Cut 3 s14.a s14.len s14.cap (some (IntKind.i64.wrap (i + (↑v.len : Int)))) none none fun (s15 : Sl) =>
              CallF PG fn_slices_overlaps_api_Ref_ [Value.slice v.a v.len v.cap, Value.slice s15.a s15.len s15.cap] (Kd.one (Cmp.leaf Leaf.bool)) h fun (b16 : Bool) (h17 : Mem) =>
                Br (!b16)
                  (Cut 3 s14.a s14.len s14.cap (some (IntKind.i64.wrap (i + (↑v.len : Int)))) none none fun (s18 : Sl) =>
                    Cut 3 s14.a s14.len s14.cap (some i) none none fun (s19 : Sl) =>
                      PrimT PG (Builtin.copy_ #[ty_sl_api_Ref, ty_sl_api_Ref] ty_int #[Value.slice s18.a s18.len s18.cap, Value.slice s19.a s19.len s19.cap]) (Kd.one (Cmp.leaf (Leaf.int IntKind.i64)))
                        h17 fun (n20 : Int) (h21 : Mem) =>
                        Cut 3 s14.a s14.len s14.cap (some i) none none fun (s22 : Sl) =>
                          PrimT PG (Builtin.copy_ #[ty_sl_api_Ref, ty_sl_api_Ref] ty_int #[Value.slice s22.a s22.len s22.cap, Value.slice v.a v.len v.cap]) (Kd.one (Cmp.leaf (Leaf.int IntKind.i64))) h21
                            fun (n23 : Int) (h24 : Mem) => Q (Sl.mk s14.a s14.len s14.cap) h24)
                  (Cut 3 s14.a s14.len s14.cap (some (↑s.len : Int)) none none fun (s25 : Sl) =>
                    PrimT PG (Builtin.copy_ #[ty_sl_api_Ref, ty_sl_api_Ref] ty_int #[Value.slice s25.a s25.len s25.cap, Value.slice v.a v.len v.cap]) (Kd.one (Cmp.leaf (Leaf.int IntKind.i64))) h17
                      fun (n26 : Int) (h27 : Mem) =>
                      Cut 3 s14.a s14.len s14.cap (some i) none none fun (s28 : Sl) =>
                        CallF PG fn_slices_rotateRight_api_Ref_ [Value.slice s28.a s28.len s28.cap, Value.int IntKind.i64 (↑v.len : Int)] (Kd.tup []) h27 fun (h29 : Mem) =>
                          Q (Sl.mk s14.a s14.len s14.cap) h29))))
theorem eq_slices_Insert_api_Ref_api_Ref_ (s : Sl) (i : Int) (v : Sl) (h : Mem) (Q : Sl → Mem → Prop) : wp_slices_Insert_api_Ref_api_Ref_ s i v h Q = evFn PG fn_slices_Insert_api_Ref_api_Ref_ tab_slices_Insert_api_Ref_api_Ref_ [.slice s.a s.len s.cap, .int .i64 i, .slice v.a v.len v.cap] (.one (.leaf .sl)) h Q := by kernel_rfl
theorem ok_slices_Insert_api_Ref_api_Ref_ : okF PG fn_slices_Insert_api_Ref_api_Ref_ tab_slices_Insert_api_Ref_api_Ref_ = true := by kernel_rfl
theorem call_slices_Insert_api_Ref_api_Ref_ {s : Sl} {i : Int} {v : Sl} {h : Mem} {Q : Sl → Mem → Prop} (hw' : wp_slices_Insert_api_Ref_api_Ref_ s i v h Q) : CallF PG fn_slices_Insert_api_Ref_api_Ref_ [.slice s.a s.len s.cap, .int .i64 i, .slice v.a v.len v.cap] (.one (.leaf .sl)) h Q := callF_of PM ok_slices_Insert_api_Ref_api_Ref_ (eq_slices_Insert_api_Ref_api_Ref_ s i v h Q ▸ hw')

/- 143: slices.rotateRight[int] -/
def tab_slices_rotateRight_int_ : Tab := ⟨[], [], []⟩
def wp_slices_rotateRight_int_ (s : Sl) (r : Int) (h : Mem) (Q : Mem → Prop) : Prop :=
  CallF PG fn_slices_rotateLeft_int_ [Value.slice s.a s.len s.cap, Value.int IntKind.i64 (IntKind.i64.wrap ((↑s.len : Int) - r))] (Kd.tup []) h fun (h1 : Mem) => Q h1
theorem eq_slices_rotateRight_int_ (s : Sl) (r : Int) (h : Mem) (Q : Mem → Prop) : wp_slices_rotateRight_int_ s r h Q = evFn PG fn_slices_rotateRight_int_ tab_slices_rotateRight_int_ [.slice s.a s.len s.cap, .int .i64 r] (.tup []) h Q := by kernel_rfl
theorem ok_slices_rotateRight_int_ : okF PG fn_slices_rotateRight_int_ tab_slices_rotateRight_int_ = true := by kernel_rfl
theorem call_slices_rotateRight_int_ {s : Sl} {r : Int} {h : Mem} {Q : Mem → Prop} (hw' : wp_slices_rotateRight_int_ s r h Q) : CallF PG fn_slices_rotateRight_int_ [.slice s.a s.len s.cap, .int .i64 r] (.tup []) h Q := callF_of PM ok_slices_rotateRight_int_ (eq_slices_rotateRight_int_ s r h Q ▸ hw')

/- 144: (*dunnage/btree.node).part -/
def tab_btree_node_part : Tab := ⟨[], [], [(1, .nil)]⟩
def wp_btree_node_part (n : Option Addr) (from' : Int) (to : Int) (h : Mem) (Q : Sl → Sl → Sl → Mem → Prop) : Prop :=
  New (Obj.cells #[Value.slice none 0 0, Value.slice none 0 0, Value.slice none 0 0] ty_btree_node) h fun (k1 : Nat) (h2 : Mem) =>
    Deref n fun (p3 : Addr) =>
      Ld PG ty_sl_string p3 (Kd.one (Cmp.leaf Leaf.sl)) h2 fun (s4 : Sl) =>
        Cut 1 s4.a s4.len s4.cap (some from') (some to) none fun (s5 : Sl) =>
          Deref n fun (p6 : Addr) =>
            Ld PG ty_sl_api_Ref (p6.add 1) (Kd.one (Cmp.leaf Leaf.sl)) h2 fun (s7 : Sl) =>
              Cut 3 s7.a s7.len s7.cap (some from') (some to) none fun (s8 : Sl) =>
                (CallF PG fn_slices_Clone_string_string_ [Value.slice s5.a s5.len s5.cap] (Kd.one (Cmp.leaf Leaf.sl)) h2 fun (s9 : Sl) (h10 : Mem) =>
                    (Ld PG ty_sl_api_Ref (p6.add 1) (Kd.one (Cmp.leaf Leaf.sl)) h10 fun (s11 : Sl) => Value.slice s11.a s11.len s11.cap = Value.slice s7.a s7.len s7.cap) ∧
                      (CallF PG fn_slices_Clone_api_Ref_api_Ref_ [Value.slice s8.a s8.len s8.cap] (Kd.one (Cmp.leaf Leaf.sl)) h10 fun (s12 : Sl) (h13 : Mem) =>
                          New (Obj.cells #[Value.slice none 0 0, Value.slice none 0 0, Value.slice none 0 0] ty_btree_node) h13 fun (k14 : Nat) (h15 : Mem) =>
                            St PG ty_btree_node (Addr.mk k14 0 none) (Value.agg #[Value.slice s9.a s9.len s9.cap, Value.slice s12.a s12.len s12.cap, Value.slice none 0 0]) h15
                              fun (h16 : Mem) =>
                              Deref n fun (p17 : Addr) =>
                                Ld PG ty_sl_int (p17.add 2) (Kd.one (Cmp.leaf Leaf.sl)) h16 fun (s18 : Sl) =>
                                  Br (decide ((↑s18.len : Int) > 0))
                                    (Deref n fun (p19 : Addr) =>
                                      Ld PG ty_sl_int (p19.add 2) (Kd.one (Cmp.leaf Leaf.sl)) h16 fun (s20 : Sl) =>
                                        Cut 1 s20.a s20.len s20.cap (some from') (some (IntKind.i64.wrap (to + 1))) none fun (s21 : Sl) =>
                                          CallF PG fn_slices_Clone_int_int_ [Value.slice s21.a s21.len s21.cap] (Kd.one (Cmp.leaf Leaf.sl)) h16 fun (s22 : Sl) (h23 : Mem) =>
                                            St PG ty_sl_int ((Addr.mk k14 0 none).add 2) (Value.slice s22.a s22.len s22.cap) h23 fun (h24 : Mem) =>
                                              Ld PG ty_btree_node (Addr.mk k14 0 none) (Kd.one (Cmp.agg [Leaf.sl, Leaf.sl, Leaf.sl])) h24 fun (s25 s26 s27 : Sl) =>
                                                St PG ty_btree_node (Addr.mk k1 0 none)
                                                  (Value.agg #[Value.slice s25.a s25.len s25.cap, Value.slice s26.a s26.len s26.cap, Value.slice s27.a s27.len s27.cap]) h24
                                                  fun (h28 : Mem) =>
                                                  Ld PG ty_btree_node (Addr.mk k1 0 none) (Kd.one (Cmp.agg [Leaf.sl, Leaf.sl, Leaf.sl])) h28 fun (s29 s30 s31 : Sl) =>
                                                    Q (Sl.mk s29.a s29.len s29.cap) (Sl.mk s30.a s30.len s30.cap) (Sl.mk s31.a s31.len s31.cap) h28)
                                    (Ld PG ty_btree_node (Addr.mk k14 0 none) (Kd.one (Cmp.agg [Leaf.sl, Leaf.sl, Leaf.sl])) h16 fun (s32 s33 s34 : Sl) =>
                                      St PG ty_btree_node (Addr.mk k1 0 none)
                                        (Value.agg #[Value.slice s32.a s32.len s32.cap, Value.slice s33.a s33.len s33.cap, Value.slice s34.a s34.len s34.cap]) h16 fun (h35 : Mem) =>
                                        Ld PG ty_btree_node (Addr.mk k1 0 none) (Kd.one (Cmp.agg [Leaf.sl, Leaf.sl, Leaf.sl])) h35 fun (s36 s37 s38 : Sl) =>
                                          Q (Sl.mk s36.a s36.len s36.cap) (Sl.mk s37.a s37.len s37.cap) (Sl.mk s38.a s38.len s38.cap) h35)) ∧
                        New (Obj.cells #[Value.slice none 0 0, Value.slice none 0 0, Value.slice none 0 0] ty_btree_node) h10 fun (k39 : Nat) (h40 : Mem) =>
                          (Ld PG ty_sl_api_Ref (p6.add 1) (Kd.one (Cmp.leaf Leaf.sl)) h40 fun (s41 : Sl) => Value.slice s41.a s41.len s41.cap = Value.slice s7.a s7.len s7.cap) ∧
                            CallF PG fn_slices_Clone_api_Ref_api_Ref_ [Value.slice s8.a s8.len s8.cap] (Kd.one (Cmp.leaf Leaf.sl)) h40 fun (s42 : Sl) (h43 : Mem) =>
                              St PG ty_btree_node (Addr.mk k39 0 none) (Value.agg #[Value.slice s9.a s9.len s9.cap, Value.slice s42.a s42.len s42.cap, Value.slice none 0 0]) h43
                                fun (h44 : Mem) =>
                                Deref n fun (p45 : Addr) =>
                                  Ld PG ty_sl_int (p45.add 2) (Kd.one (Cmp.leaf Leaf.sl)) h44 fun (s46 : Sl) =>
                                    Br (decide ((↑s46.len : Int) > 0))
                                      (Deref n fun (p47 : Addr) =>
                                        Ld PG ty_sl_int (p47.add 2) (Kd.one (Cmp.leaf Leaf.sl)) h44 fun (s48 : Sl) =>
                                          Cut 1 s48.a s48.len s48.cap (some from') (some (IntKind.i64.wrap (to + 1))) none fun (s49 : Sl) =>
                                            CallF PG fn_slices_Clone_int_int_ [Value.slice s49.a s49.len s49.cap] (Kd.one (Cmp.leaf Leaf.sl)) h44 fun (s50 : Sl) (h51 : Mem) =>
                                              St PG ty_sl_int ((Addr.mk k39 0 none).add 2) (Value.slice s50.a s50.len s50.cap) h51 fun (h52 : Mem) =>
                                                Ld PG ty_btree_node (Addr.mk k39 0 none) (Kd.one (Cmp.agg [Leaf.sl, Leaf.sl, Leaf.sl])) h52 fun (s53 s54 s55 : Sl) =>
                                                  St PG ty_btree_node (Addr.mk k1 0 none)
                                                    (Value.agg #[Value.slice s53.a s53.len s53.cap, Value.slice s54.a s54.len s54.cap, Value.slice s55.a s55.len s55.cap]) h52
                                                    fun (h56 : Mem) =>
                                                    Ld PG ty_btree_node (Addr.mk k1 0 none) (Kd.one (Cmp.agg [Leaf.sl, Leaf.sl, Leaf.sl])) h56 fun (s57 s58 s59 : Sl) =>
                                                      Q (Sl.mk s57.a s57.len s57.cap) (Sl.mk s58.a s58.len s58.cap) (Sl.mk s59.a s59.len s59.cap) h56)
                                      (Ld PG ty_btree_node (Addr.mk k39 0 none) (Kd.one (Cmp.agg [Leaf.sl, Leaf.sl, Leaf.sl])) h44 fun (s60 s61 s62 : Sl) =>
                                        St PG ty_btree_node (Addr.mk k1 0 none)
                                          (Value.agg #[Value.slice s60.a s60.len s60.cap, Value.slice s61.a s61.len s61.cap, Value.slice s62.a s62.len s62.cap]) h44
                                          fun (h63 : Mem) =>
                                          Ld PG ty_btree_node (Addr.mk k1 0 none) (Kd.one (Cmp.agg [Leaf.sl, Leaf.sl, Leaf.sl])) h63 fun (s64 s65 s66 : Sl) =>
                                            Q (Sl.mk s64.a s64.len s64.cap) (Sl.mk s65.a s65.len s65.cap) (Sl.mk s66.a s66.len s66.cap) h63)) ∧
                  New (Obj.cells #[Value.slice none 0 0, Value.slice none 0 0, Value.slice none 0 0] ty_btree_node) h2 fun (k67 : Nat) (h68 : Mem) =>
                    (Ld PG ty_sl_api_Ref (p6.add 1) (Kd.one (Cmp.leaf Leaf.sl)) h68 fun (s69 : Sl) => Value.slice s69.a s69.len s69.cap = Value.slice s7.a s7.len s7.cap) ∧
                      (Ld PG ty_sl_string p3 (Kd.one (Cmp.leaf Leaf.sl)) h68 fun (s70 : Sl) => Value.slice s70.a s70.len s70.cap = Value.slice s4.a s4.len s4.cap) ∧
                        CallF PG fn_slices_Clone_string_string_ [Value.slice s5.a s5.len s5.cap] (Kd.one (Cmp.leaf Leaf.sl)) h68 fun (s71 : Sl) (h72 : Mem) =>
                          (Ld PG ty_sl_api_Ref (p6.add 1) (Kd.one (Cmp.leaf Leaf.sl)) h72 fun (s73 : Sl) => Value.slice s73.a s73.len s73.cap = Value.slice s7.a s7.len s7.cap) ∧
                            CallF PG fn_slices_Clone_api_Ref_api_Ref_ [Value.slice s8.a s8.len s8.cap] (Kd.one (Cmp.leaf Leaf.sl)) h72 fun (s74 : Sl) (h75 : Mem) =>
                              St PG ty_btree_node (Addr.mk k67 0 none) (Value.agg #[Value.slice s71.a s71.len s71.cap, Value.slice s74.a s74.len s74.cap, Value.slice none 0 0]) h75
                                fun (h76 : Mem) =>
                                Deref n fun (p77 : Addr) =>
                                  Ld PG ty_sl_int (p77.add 2) (Kd.one (Cmp.leaf Leaf.sl)) h76 fun (s78 : Sl) =>
                                    Br (decide ((↑s78.len : Int) > 0))
                                      (Deref n fun (p79 : Addr) =>
                                        Ld PG ty_sl_int (p79.add 2) (Kd.one (Cmp.leaf Leaf.sl)) h76 fun (s80 : Sl) =>
                                          Cut 1 s80.a s80.len s80.cap (some from') (some (IntKind.i64.wrap (to + 1))) none fun (s81 : Sl) =>
                                            CallF PG fn_slices_Clone_int_int_ [Value.slice s81.a s81.len s81.cap] (Kd.one (Cmp.leaf Leaf.sl)) h76 fun (s82 : Sl) (h83 : Mem) =>
                                              St PG ty_sl_int ((Addr.mk k67 0 none).add 2) (Value.slice s82.a s82.len s82.cap) h83 fun (h84 : Mem) =>
                                                Ld PG ty_btree_node (Addr.mk k67 0 none) (Kd.one (Cmp.agg [Leaf.sl, Leaf.sl, Leaf.sl])) h84 fun (s85 s86 s87 : Sl) =>
                                                  St PG ty_btree_node (Addr.mk k1 0 none)
                                                    (Value.agg #[Value.slice s85.a s85.len s85.cap, Value.slice s86.a s86.len s86.cap, Value.slice s87.a s87.len s87.cap]) h84
                                                    fun (h88 : Mem) =>
                                                    Ld PG ty_btree_node (Addr.mk k1 0 none) (Kd.one (Cmp.agg [Leaf.sl, Leaf.sl, Leaf.sl])) h88 fun (s89 s90 s91 : Sl) =>
                                                      Q (Sl.mk s89.a s89.len s89.cap) (Sl.mk s90.a s90.len s90.cap) (Sl.mk s91.a s91.len s91.cap) h88)
                                      (Ld PG ty_btree_node (Addr.mk k67 0 none) (Kd.one (Cmp.agg [Leaf.sl, Leaf.sl, Leaf.sl])) h76 fun (s92 s93 s94 : Sl) =>
                                        St PG ty_btree_node (Addr.mk k1 0 none)
                                          (Value.agg #[Value.slice s92.a s92.len s92.cap, Value.slice s93.a s93.len s93.cap, Value.slice s94.a s94.len s94.cap]) h76
                                          fun (h95 : Mem) =>
                                          Ld PG ty_btree_node (Addr.mk k1 0 none) (Kd.one (Cmp.agg [Leaf.sl, Leaf.sl, Leaf.sl])) h95 fun (s96 s97 s98 : Sl) =>
                                            Q (Sl.mk s96.a s96.len s96.cap) (Sl.mk s97.a s97.len s97.cap) (Sl.mk s98.a s98.len s98.cap) h95)
theorem eq_btree_node_part (n : Option Addr) (from' : Int) (to : Int) (h : Mem) (Q : Sl → Sl → Sl → Mem → Prop) : wp_btree_node_part n from' to h Q = evFn PG fn_btree_node_part tab_btree_node_part [.pointer n, .int .i64 from', .int .i64 to] (.one (.agg [.sl, .sl, .sl])) h Q := by kernel_rfl
theorem ok_btree_node_part : okF PG fn_btree_node_part tab_btree_node_part = true := by kernel_rfl
theorem call_btree_node_part {n : Option Addr} {from' : Int} {to : Int} {h : Mem} {Q : Sl → Sl → Sl → Mem → Prop} (hw' : wp_btree_node_part n from' to h Q) : CallF PG fn_btree_node_part [.pointer n, .int .i64 from', .int .i64 to] (.one (.agg [.sl, .sl, .sl])) h Q := callF_of PM ok_btree_node_part (eq_btree_node_part n from' to h Q ▸ hw')

/- 179: cmp.isNaN[string] -/
def tab_cmp_isNaN_string_ : Tab := ⟨[], [], []⟩
def wp_cmp_isNaN_string_ (x : ByteArray) (h : Mem) (Q : Bool → Mem → Prop) : Prop :=
  Q (!sEq x x) h
theorem eq_cmp_isNaN_string_ (x : ByteArray) (h : Mem) (Q : Bool → Mem → Prop) : wp_cmp_isNaN_string_ x h Q = evFn PG fn_cmp_isNaN_string_ tab_cmp_isNaN_string_ [.string x] (.one (.leaf .bool)) h Q := by kernel_rfl
theorem ok_cmp_isNaN_string_ : okF PG fn_cmp_isNaN_string_ tab_cmp_isNaN_string_ = true := by kernel_rfl
theorem call_cmp_isNaN_string_ {x : ByteArray} {h : Mem} {Q : Bool → Mem → Prop} (hw' : wp_cmp_isNaN_string_ x h Q) : CallF PG fn_cmp_isNaN_string_ [.string x] (.one (.leaf .bool)) h Q := callF_of PM ok_cmp_isNaN_string_ (eq_cmp_isNaN_string_ x h Q ▸ hw')

/- 181: slices.rotateRight[string] -/
def tab_slices_rotateRight_string_ : Tab := ⟨[], [], []⟩
def wp_slices_rotateRight_string_ (s : Sl) (r : Int) (h : Mem) (Q : Mem → Prop) : Prop :=
  CallF PG fn_slices_rotateLeft_string_ [Value.slice s.a s.len s.cap, Value.int IntKind.i64 (IntKind.i64.wrap ((↑s.len : Int) - r))] (Kd.tup []) h fun (h1 : Mem) => Q h1
theorem eq_slices_rotateRight_string_ (s : Sl) (r : Int) (h : Mem) (Q : Mem → Prop) : wp_slices_rotateRight_string_ s r h Q = evFn PG fn_slices_rotateRight_string_ tab_slices_rotateRight_string_ [.slice s.a s.len s.cap, .int .i64 r] (.tup []) h Q := by kernel_rfl
theorem ok_slices_rotateRight_string_ : okF PG fn_slices_rotateRight_string_ tab_slices_rotateRight_string_ = true := by kernel_rfl
theorem call_slices_rotateRight_string_ {s : Sl} {r : Int} {h : Mem} {Q : Mem → Prop} (hw' : wp_slices_rotateRight_string_ s r h Q) : CallF PG fn_slices_rotateRight_string_ [.slice s.a s.len s.cap, .int .i64 r] (.tup []) h Q := callF_of PM ok_slices_rotateRight_string_ (eq_slices_rotateRight_string_ s r h Q ▸ hw')

/- 183: slices.rotateRight[dunnage/api.Ref] -/
def tab_slices_rotateRight_api_Ref_ : Tab := ⟨[], [], []⟩
def wp_slices_rotateRight_api_Ref_ (s : Sl) (r : Int) (h : Mem) (Q : Mem → Prop) : Prop :=
  CallF PG fn_slices_rotateLeft_api_Ref_ [Value.slice s.a s.len s.cap, Value.int IntKind.i64 (IntKind.i64.wrap ((↑s.len : Int) - r))] (Kd.tup []) h fun (h1 : Mem) => Q h1
theorem eq_slices_rotateRight_api_Ref_ (s : Sl) (r : Int) (h : Mem) (Q : Mem → Prop) : wp_slices_rotateRight_api_Ref_ s r h Q = evFn PG fn_slices_rotateRight_api_Ref_ tab_slices_rotateRight_api_Ref_ [.slice s.a s.len s.cap, .int .i64 r] (.tup []) h Q := by kernel_rfl
theorem ok_slices_rotateRight_api_Ref_ : okF PG fn_slices_rotateRight_api_Ref_ tab_slices_rotateRight_api_Ref_ = true := by kernel_rfl
theorem call_slices_rotateRight_api_Ref_ {s : Sl} {r : Int} {h : Mem} {Q : Mem → Prop} (hw' : wp_slices_rotateRight_api_Ref_ s r h Q) : CallF PG fn_slices_rotateRight_api_Ref_ [.slice s.a s.len s.cap, .int .i64 r] (.tup []) h Q := callF_of PM ok_slices_rotateRight_api_Ref_ (eq_slices_rotateRight_api_Ref_ s r h Q ▸ hw')

/- 185: slices.Clone[[]string,string] -/
def tab_slices_Clone_string_string_ : Tab := ⟨[], [], []⟩
def wp_slices_Clone_string_string_ (s : Sl) (h : Mem) (Q : Sl → Mem → Prop) : Prop :=
  Br
    (match s.a with
    | some p2 => false
    | none => true)
    (Q (Sl.mk none 0 0) h)
    (New (Obj.cells #[] ty_string) h fun (k4 : Nat) (h5 : Mem) =>
      PrimT PG (Builtin.append_ #[ty_sl_string, ty_sl_string] ty_sl_string #[Value.slice (some (Addr.mk k4 0 none)) 0 0, Value.slice s.a s.len s.cap]) (Kd.one (Cmp.leaf Leaf.sl)) h5
        fun (s6 : Sl) (h7 : Mem) => Q (Sl.mk s6.a s6.len s6.cap) h7)
theorem eq_slices_Clone_string_string_ (s : Sl) (h : Mem) (Q : Sl → Mem → Prop) : wp_slices_Clone_string_string_ s h Q = evFn PG fn_slices_Clone_string_string_ tab_slices_Clone_string_string_ [.slice s.a s.len s.cap] (.one (.leaf .sl)) h Q := by kernel_rfl
theorem ok_slices_Clone_string_string_ : okF PG fn_slices_Clone_string_string_ tab_slices_Clone_string_string_ = true := by kernel_rfl
theorem call_slices_Clone_string_string_ {s : Sl} {h : Mem} {Q : Sl → Mem → Prop} (hw' : wp_slices_Clone_string_string_ s h Q) : CallF PG fn_slices_Clone_string_string_ [.slice s.a s.len s.cap] (.one (.leaf .sl)) h Q := callF_of PM ok_slices_Clone_string_string_ (eq_slices_Clone_string_string_ s h Q ▸ hw')

/- 186: slices.Clone[[]dunnage/api.Ref,dunnage/api.Ref] -/
def tab_slices_Clone_api_Ref_api_Ref_ : Tab := ⟨[], [], []⟩
def wp_slices_Clone_api_Ref_api_Ref_ (s : Sl) (h : Mem) (Q : Sl → Mem → Prop) : Prop :=
  Br
    (match s.a with
    | some p2 => false
    | none => true)
    (Q (Sl.mk none 0 0) h)
    (New (Obj.cells #[] ty_api_Ref) h fun (k4 : Nat) (h5 : Mem) =>
      PrimT PG (Builtin.append_ #[ty_sl_api_Ref, ty_sl_api_Ref] ty_sl_api_Ref #[Value.slice (some (Addr.mk k4 0 none)) 0 0, Value.slice s.a s.len s.cap]) (Kd.one (Cmp.leaf Leaf.sl)) h5
        fun (s6 : Sl) (h7 : Mem) => Q (Sl.mk s6.a s6.len s6.cap) h7)
theorem eq_slices_Clone_api_Ref_api_Ref_ (s : Sl) (h : Mem) (Q : Sl → Mem → Prop) : wp_slices_Clone_api_Ref_api_Ref_ s h Q = evFn PG fn_slices_Clone_api_Ref_api_Ref_ tab_slices_Clone_api_Ref_api_Ref_ [.slice s.a s.len s.cap] (.one (.leaf .sl)) h Q := by kernel_rfl
theorem ok_slices_Clone_api_Ref_api_Ref_ : okF PG fn_slices_Clone_api_Ref_api_Ref_ tab_slices_Clone_api_Ref_api_Ref_ = true := by kernel_rfl
theorem call_slices_Clone_api_Ref_api_Ref_ {s : Sl} {h : Mem} {Q : Sl → Mem → Prop} (hw' : wp_slices_Clone_api_Ref_api_Ref_ s h Q) : CallF PG fn_slices_Clone_api_Ref_api_Ref_ [.slice s.a s.len s.cap] (.one (.leaf .sl)) h Q := callF_of PM ok_slices_Clone_api_Ref_api_Ref_ (eq_slices_Clone_api_Ref_api_Ref_ s h Q ▸ hw')

/- 187: slices.Clone[[]int,int] -/
def tab_slices_Clone_int_int_ : Tab := ⟨[], [], []⟩
def wp_slices_Clone_int_int_ (s : Sl) (h : Mem) (Q : Sl → Mem → Prop) : Prop :=
  Br
    (match s.a with
    | some p2 => false
    | none => true)
    (Q (Sl.mk none 0 0) h)
    (New (Obj.cells #[] ty_int) h fun (k4 : Nat) (h5 : Mem) =>
      PrimT PG (Builtin.append_ #[ty_sl_int, ty_sl_int] ty_sl_int #[Value.slice (some (Addr.mk k4 0 none)) 0 0, Value.slice s.a s.len s.cap]) (Kd.one (Cmp.leaf Leaf.sl)) h5
        fun (s6 : Sl) (h7 : Mem) => Q (Sl.mk s6.a s6.len s6.cap) h7)
theorem eq_slices_Clone_int_int_ (s : Sl) (h : Mem) (Q : Sl → Mem → Prop) : wp_slices_Clone_int_int_ s h Q = evFn PG fn_slices_Clone_int_int_ tab_slices_Clone_int_int_ [.slice s.a s.len s.cap] (.one (.leaf .sl)) h Q := by kernel_rfl
theorem ok_slices_Clone_int_int_ : okF PG fn_slices_Clone_int_int_ tab_slices_Clone_int_int_ = true := by kernel_rfl
theorem call_slices_Clone_int_int_ {s : Sl} {h : Mem} {Q : Sl → Mem → Prop} (hw' : wp_slices_Clone_int_int_ s h Q) : CallF PG fn_slices_Clone_int_int_ [.slice s.a s.len s.cap] (.one (.leaf .sl)) h Q := callF_of PM ok_slices_Clone_int_int_ (eq_slices_Clone_int_int_ s h Q ▸ hw')

/- 193: slices.Grow[[]string,string] -/
def tab_slices_Grow_string_string_ : Tab := ⟨[], [], []⟩
def wp_slices_Grow_string_string_ (s : Sl) (n : Int) (h : Mem) (Q : Sl → Mem → Prop) : Prop :=
  Br (decide (n < 0)) False
    (Br (decide (IntKind.i64.wrap (n - IntKind.i64.wrap ((↑s.cap : Int) - (↑s.len : Int))) > 0))
      (Cut 1 s.a s.len s.cap none (some (↑s.cap : Int)) none fun (s1 : Sl) =>
        PrimT PG
          (Builtin.append_ #[ty_sl_string, ty_int] ty_sl_string #[Value.slice s1.a s1.len s1.cap, Value.int IntKind.i64 (IntKind.i64.wrap (n - IntKind.i64.wrap ((↑s.cap : Int) - (↑s.len : Int))))])
          (Kd.one (Cmp.leaf Leaf.sl)) h fun (s2 : Sl) (h3 : Mem) => Cut 1 s2.a s2.len s2.cap none (some (↑s.len : Int)) none fun (s4 : Sl) => Q (Sl.mk s4.a s4.len s4.cap) h3)
      (Q (Sl.mk s.a s.len s.cap) h))
theorem eq_slices_Grow_string_string_ (s : Sl) (n : Int) (h : Mem) (Q : Sl → Mem → Prop) : wp_slices_Grow_string_string_ s n h Q = evFn PG fn_slices_Grow_string_string_ tab_slices_Grow_string_string_ [.slice s.a s.len s.cap, .int .i64 n] (.one (.leaf .sl)) h Q := by kernel_rfl
theorem ok_slices_Grow_string_string_ : okF PG fn_slices_Grow_string_string_ tab_slices_Grow_string_string_ = true := by kernel_rfl
theorem call_slices_Grow_string_string_ {s : Sl} {n : Int} {h : Mem} {Q : Sl → Mem → Prop} (hw' : wp_slices_Grow_string_string_ s n h Q) : CallF PG fn_slices_Grow_string_string_ [.slice s.a s.len s.cap, .int .i64 n] (.one (.leaf .sl)) h Q := callF_of PM ok_slices_Grow_string_string_ (eq_slices_Grow_string_string_ s n h Q ▸ hw')

/- 194: slices.Grow[[]dunnage/api.Ref,dunnage/api.Ref] -/
def tab_slices_Grow_api_Ref_api_Ref_ : Tab := ⟨[], [], []⟩
def wp_slices_Grow_api_Ref_api_Ref_ (s : Sl) (n : Int) (h : Mem) (Q : Sl → Mem → Prop) : Prop :=
  Br (decide (n < 0)) False
    (Br (decide (IntKind.i64.wrap (n - IntKind.i64.wrap ((↑s.cap : Int) - (↑s.len : Int))) > 0))
      (Cut 3 s.a s.len s.cap none (some (↑s.cap : Int)) none fun (s1 : Sl) =>
        PrimT PG
          (Builtin.append_ #[ty_sl_api_Ref, ty_int] ty_sl_api_Ref #[Value.slice s1.a s1.len s1.cap, Value.int IntKind.i64 (IntKind.i64.wrap (n - IntKind.i64.wrap ((↑s.cap : Int) - (↑s.len : Int))))])
          (Kd.one (Cmp.leaf Leaf.sl)) h fun (s2 : Sl) (h3 : Mem) => Cut 3 s2.a s2.len s2.cap none (some (↑s.len : Int)) none fun (s4 : Sl) => Q (Sl.mk s4.a s4.len s4.cap) h3)
      (Q (Sl.mk s.a s.len s.cap) h))
theorem eq_slices_Grow_api_Ref_api_Ref_ (s : Sl) (n : Int) (h : Mem) (Q : Sl → Mem → Prop) : wp_slices_Grow_api_Ref_api_Ref_ s n h Q = evFn PG fn_slices_Grow_api_Ref_api_Ref_ tab_slices_Grow_api_Ref_api_Ref_ [.slice s.a s.len s.cap, .int .i64 n] (.one (.leaf .sl)) h Q := by kernel_rfl
theorem ok_slices_Grow_api_Ref_api_Ref_ : okF PG fn_slices_Grow_api_Ref_api_Ref_ tab_slices_Grow_api_Ref_api_Ref_ = true := by kernel_rfl
theorem call_slices_Grow_api_Ref_api_Ref_ {s : Sl} {n : Int} {h : Mem} {Q : Sl → Mem → Prop} (hw' : wp_slices_Grow_api_Ref_api_Ref_ s n h Q) : CallF PG fn_slices_Grow_api_Ref_api_Ref_ [.slice s.a s.len s.cap, .int .i64 n] (.one (.leaf .sl)) h Q := callF_of PM ok_slices_Grow_api_Ref_api_Ref_ (eq_slices_Grow_api_Ref_api_Ref_ s n h Q ▸ hw')

/- 195: slices.Grow[[]int,int] -/
def tab_slices_Grow_int_int_ : Tab := ⟨[], [], []⟩
def wp_slices_Grow_int_int_ (s : Sl) (n : Int) (h : Mem) (Q : Sl → Mem → Prop) : Prop :=
  Br (decide (n < 0)) False
    (Br (decide (IntKind.i64.wrap (n - IntKind.i64.wrap ((↑s.cap : Int) - (↑s.len : Int))) > 0))
      (Cut 1 s.a s.len s.cap none (some (↑s.cap : Int)) none fun (s1 : Sl) =>
        PrimT PG
          (Builtin.append_ #[ty_sl_int, ty_int] ty_sl_int #[Value.slice s1.a s1.len s1.cap, Value.int IntKind.i64 (IntKind.i64.wrap (n - IntKind.i64.wrap ((↑s.cap : Int) - (↑s.len : Int))))])
          (Kd.one (Cmp.leaf Leaf.sl)) h fun (s2 : Sl) (h3 : Mem) => Cut 1 s2.a s2.len s2.cap none (some (↑s.len : Int)) none fun (s4 : Sl) => Q (Sl.mk s4.a s4.len s4.cap) h3)
      (Q (Sl.mk s.a s.len s.cap) h))
theorem eq_slices_Grow_int_int_ (s : Sl) (n : Int) (h : Mem) (Q : Sl → Mem → Prop) : wp_slices_Grow_int_int_ s n h Q = evFn PG fn_slices_Grow_int_int_ tab_slices_Grow_int_int_ [.slice s.a s.len s.cap, .int .i64 n] (.one (.leaf .sl)) h Q := by kernel_rfl
theorem ok_slices_Grow_int_int_ : okF PG fn_slices_Grow_int_int_ tab_slices_Grow_int_int_ = true := by kernel_rfl
theorem call_slices_Grow_int_int_ {s : Sl} {n : Int} {h : Mem} {Q : Sl → Mem → Prop} (hw' : wp_slices_Grow_int_int_ s n h Q) : CallF PG fn_slices_Grow_int_int_ [.slice s.a s.len s.cap, .int .i64 n] (.one (.leaf .sl)) h Q := callF_of PM ok_slices_Grow_int_int_ (eq_slices_Grow_int_int_ s n h Q ▸ hw')

end Go.Dn.W
