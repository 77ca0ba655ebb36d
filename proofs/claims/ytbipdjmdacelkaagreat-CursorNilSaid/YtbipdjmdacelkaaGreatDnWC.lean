/- What each function asks for: typed text, and the theorem that the code does it. -/
import Derived.Test.YtbipdjmdacelkaaGreatDnNames
set_option maxRecDepth 100000
set_option linter.unusedVariables false
namespace Go.Dn.W
open Go Go.Dn Go.Proofs

/- 9: dunnage/dunnagelaw18.CursorNil -/
def tab_dunnagelaw18_CursorNil : Tab := ⟨[], [], [(5, (chainT [(0, false), (1, false)] (.join ⟨[(31, .leaf .bool)], [30]⟩ (chainT [(2, false), (3, false)] .nil) (chainT [(4, false)] (.join ⟨[(36, .leaf .bool)], [33, 34, 35]⟩ (chainT [(5, false), (6, false), (7, false), (8, false)] .nil) (chainT [(9, false)] (.join ⟨[(41, .leaf .bool)], [38, 39, 40]⟩ (chainT [(10, false), (11, false), (12, false), (13, false)] .nil) (chainT [(14, false)] (.join ⟨[(46, .leaf .bool)], [43, 44, 45]⟩ (chainT [(15, false), (16, false), (17, false), (18, false)] .nil) (chainT [(19, false), (20, false), (21, false), (22, false), (23, false), (24, false), (25, false), (26, false), (27, false), (28, false), (29, false), (30, false), (31, false), (32, false), (33, false), (34, false), (35, false), (36, false), (37, false), (38, false), (39, false), (40, false), (41, false), (42, false), (43, false), (44, false), (45, false), (46, false), (47, false), (48, false), (49, false), (50, false), (51, false), (52, false)] .nil))))))))))]⟩
def wp_dunnagelaw18_CursorNil (key : ByteArray) (root : Int) (h : Mem) (Q : Bool → Mem → Prop) : Prop :=
  CallF PG fn_cursor_Cursor_Entry [Value.pointer none] (Kd.tup [Cmp.agg [Leaf.str, Leaf.int IntKind.u64, Leaf.int IntKind.i64, Leaf.int IntKind.i64], Cmp.leaf Leaf.bool]) h
    fun (t1 : ByteArray) (n2 n3 n4 : Int) (b5 : Bool) (h6 : Mem) =>
    New (Obj.cells #[Value.string (ByteArray.mk #[]), Value.int IntKind.u64 0, Value.int IntKind.i64 0, Value.int IntKind.i64 0] ty_api_Entry) h6 fun (k7 : Nat) (h8 : Mem) =>
      St PG ty_api_Entry (Addr.mk k7 0 none) (Value.agg #[Value.string t1, Value.int IntKind.u64 n2, Value.int IntKind.i64 n3, Value.int IntKind.i64 n4]) h8 fun (h9 : Mem) =>
        CallF PG fn_dunnagelaw18_rest [Value.pointer none, Value.int IntKind.i64 3] (Kd.tup [Cmp.leaf Leaf.sl, Cmp.leaf Leaf.bool]) h9 fun (s10 : Sl) (b11 : Bool) (h12 : Mem) =>
          CallF PG fn_cursor_New [Value.pointer none, Value.int IntKind.i64 root, Value.string key, Value.string (ByteArray.mk #[])]
            (Kd.tup [Cmp.leaf Leaf.ptr, Cmp.leaf (Leaf.int IntKind.i64)]) h12 fun (q13 : Option Addr) (n14 : Int) (h15 : Mem) =>
            CallF PG fn_dunnagelaw18_awake [] (Kd.one (Cmp.leaf Leaf.bool)) h15 fun (b16 : Bool) (h17 : Mem) =>
              ∃ (I18 : Bool → Mem → Prop),
                (∀ (j19 : Fr) (b20 : Bool) (h21 : Mem),
                    I18 b20 h21 →
                      ∃ (I22 : Bool → Mem → Prop),
                        (∀ (j23 : Fr) (b24 : Bool) (h25 : Mem),
                            I22 b24 h25 →
                              ∃ (I26 : Bool → Mem → Prop),
                                (∀ (j27 : Fr) (b28 : Bool) (h29 : Mem),
                                    I26 b28 h29 →
                                      ∃ (I30 : Bool → Mem → Prop),
                                        (∀ (j31 : Fr) (b32 : Bool) (h33 : Mem),
                                            I30 b32 h33 →
                                              Br b32
                                                (CallF PG fn_cursor_Cursor_Seek [Value.pointer none, Value.string key] (Kd.one (Cmp.leaf Leaf.bool)) h33 fun (b34 : Bool) (h35 : Mem) =>
                                                  Br (!b34)
                                                    (CallF PG fn_cursor_Cursor_Next [Value.pointer none] (Kd.one (Cmp.leaf Leaf.bool)) h35 fun (b36 : Bool) (h37 : Mem) =>
                                                      Br (!b36)
                                                        (CallF PG fn_cursor_Cursor_Prev [Value.pointer none] (Kd.one (Cmp.leaf Leaf.bool)) h37 fun (b38 : Bool) (h39 : Mem) =>
                                                          Br (!b38)
                                                            (Br (!b5)
                                                              (Ld PG ty_api_Entry (Addr.mk k7 0 none)
                                                                (Kd.one (Cmp.agg [Leaf.str, Leaf.int IntKind.u64, Leaf.int IntKind.i64, Leaf.int IntKind.i64])) h39
                                                                fun (t40 : ByteArray) (n41 n42 n43 : Int) =>
                                                                EqP PG BinOp.eql ty_api_Entry
                                                                  (Value.agg #[Value.string t40, Value.int IntKind.u64 n41, Value.int IntKind.i64 n42, Value.int IntKind.i64 n43])
                                                                  (Value.agg
                                                                    #[Value.string (ByteArray.mk #[]), Value.int IntKind.u64 0, Value.int IntKind.i64 0, Value.int IntKind.i64 0])
                                                                  fun (b44 : Bool) =>
                                                                  Br b44
                                                                    (Br
                                                                      (match q13 with
                                                                      | some p46 => false
                                                                      | none => true)
                                                                      (Q (n14 == 2) h39) (Q false h39))
                                                                    (Q false h39))
                                                              (Q false h39))
                                                            (Q false h39))
                                                        (Q false h37))
                                                    (Q false h35))
                                                (Q false h33)) ∧
                                          Br b28 (CallF PG fn_cursor_Cursor_Last [Value.pointer none] (Kd.one (Cmp.leaf Leaf.bool)) h29 fun (b48 : Bool) (h49 : Mem) => I30 (!b48) h49)
                                            (I30 false h29)) ∧
                                  Br b24 (CallF PG fn_cursor_Cursor_First [Value.pointer none] (Kd.one (Cmp.leaf Leaf.bool)) h25 fun (b50 : Bool) (h51 : Mem) => I26 (!b50) h51) (I26 false h25)) ∧
                          Br b20 (I22 ((↑s10.len : Int) == 0) h21) (I22 false h21)) ∧
                  Br b16 (I18 b11 h17) (I18 false h17)
theorem eq_dunnagelaw18_CursorNil (key : ByteArray) (root : Int) (h : Mem) (Q : Bool → Mem → Prop) : wp_dunnagelaw18_CursorNil key root h Q = evFn PG fn_dunnagelaw18_CursorNil tab_dunnagelaw18_CursorNil [.string key, .int .i64 root] (.one (.leaf .bool)) h Q := by kernel_rfl
theorem ok_dunnagelaw18_CursorNil : okF PG fn_dunnagelaw18_CursorNil tab_dunnagelaw18_CursorNil = true := by kernel_rfl
theorem call_dunnagelaw18_CursorNil {key : ByteArray} {root : Int} {h : Mem} {Q : Bool → Mem → Prop} (hw' : wp_dunnagelaw18_CursorNil key root h Q) : CallF PG fn_dunnagelaw18_CursorNil [.string key, .int .i64 root] (.one (.leaf .bool)) h Q := callF_of PM ok_dunnagelaw18_CursorNil (eq_dunnagelaw18_CursorNil key root h Q ▸ hw')

/- 17: dunnage/dunnagelaw17.TreeNil -/
def tab_dunnagelaw17_TreeNil : Tab := ⟨[], [], [(9, (chainT [(0, false), (1, false)] (.join ⟨[(73, .leaf .bool)], [72]⟩ (chainT [(2, false), (3, false)] .nil) (chainT [(4, false)] (.join ⟨[(78, .leaf .bool)], [75, 76, 77]⟩ (chainT [(5, false), (6, false), (7, false), (8, false)] .nil) (chainT [(9, false)] (.join ⟨[(86, .leaf .bool)], [80, 81, 82, 83, 84, 85]⟩ (chainT [(10, false), (11, false), (12, false), (13, false), (14, false), (15, false), (16, false)] .nil) (chainT [(17, false)] (.join ⟨[(90, .leaf .bool)], [88, 89]⟩ (chainT [(18, false), (19, false), (20, false)] .nil) (chainT [(21, false)] (.join ⟨[(94, .leaf .bool)], [92, 93]⟩ (chainT [(22, false), (23, false), (24, false)] .nil) (chainT [(25, false)] (.join ⟨[(98, .leaf .bool)], [96, 97]⟩ (chainT [(26, false), (27, false), (28, false)] .nil) (chainT [(29, false)] (.join ⟨[(102, .leaf .bool)], [100, 101]⟩ (chainT [(30, false), (31, false), (32, false)] .nil) (chainT [(33, false)] (.join ⟨[(108, .leaf .bool)], [104, 105, 106, 107]⟩ (chainT [(34, false), (35, false), (36, false), (37, false), (38, false)] .nil) (chainT [(39, false)] (.join ⟨[(113, .leaf .bool)], [110, 111, 112]⟩ (chainT [(40, false), (41, false), (42, false), (43, false)] .nil) (chainT [(44, false)] (.join ⟨[(119, .leaf .bool)], [115, 116, 117, 118]⟩ (chainT [(45, false), (46, false), (47, false), (48, false), (49, false)] .nil) (chainT [(50, false)] (.join ⟨[(125, .leaf .bool)], [121, 122, 123, 124]⟩ (chainT [(51, false), (52, false), (53, false), (54, false), (55, false)] .nil) (chainT [(56, false)] (.join ⟨[(131, .leaf .bool)], [127, 128, 129, 130]⟩ (chainT [(57, false), (58, false), (59, false), (60, false), (61, false)] .nil) (chainT [(62, false), (63, false), (64, false), (65, false), (66, false), (67, false), (68, false), (69, false), (70, false), (71, false), (72, false), (73, false), (74, false), (75, false), (76, false), (77, false), (78, false), (79, false), (80, false), (81, false), (82, false), (83, false), (84, false), (85, false), (86, false), (87, false), (88, false), (89, false), (90, false), (91, false)] .nil)))))))))))))))))))))))))), (8, (chainT [(0, false), (1, false), (2, false)] (.join ⟨[(69, .leaf .bool)], [67, 68]⟩ (chainT [(3, false), (4, false), (5, false)] .nil) (chainT [(6, false)] .nil))))]⟩
def wp_dunnagelaw17_TreeNil (words : Int) (root : Int) (key : ByteArray) (h : Mem) (Q : Bool → Mem → Prop) : Prop :=
  CallF PG fn_btree_Forest_Delete [Value.pointer none, Value.int IntKind.i64 root, Value.string key] (Kd.tup [Cmp.leaf Leaf.bool, Cmp.leaf (Leaf.int IntKind.i64)]) h
    fun (b1 : Bool) (n2 : Int) (h3 : Mem) =>
    CallF PG fn_btree_Forest_Get [Value.pointer none, Value.int IntKind.i64 root, Value.string key]
      (Kd.tup [Cmp.agg [Leaf.int IntKind.u64, Leaf.int IntKind.i64, Leaf.int IntKind.i64], Cmp.leaf Leaf.bool]) h3 fun (n4 n5 n6 : Int) (b7 : Bool) (h8 : Mem) =>
      New (Obj.cells #[Value.int IntKind.u64 0, Value.int IntKind.i64 0, Value.int IntKind.i64 0] ty_api_Ref) h8 fun (k9 : Nat) (h10 : Mem) =>
        St PG ty_api_Ref (Addr.mk k9 0 none) (Value.agg #[Value.int IntKind.u64 n4, Value.int IntKind.i64 n5, Value.int IntKind.i64 n6]) h10 fun (h11 : Mem) =>
          CallF PG fn_btree_Forest_Seek [Value.pointer none, Value.int IntKind.i64 root, Value.string key]
            (Kd.tup [Cmp.leaf Leaf.str, Cmp.agg [Leaf.int IntKind.u64, Leaf.int IntKind.i64, Leaf.int IntKind.i64], Cmp.leaf Leaf.bool]) h11
            fun (t12 : ByteArray) (n13 n14 n15 : Int) (b16 : Bool) (h17 : Mem) =>
            New (Obj.cells #[Value.int IntKind.u64 0, Value.int IntKind.i64 0, Value.int IntKind.i64 0] ty_api_Ref) h17 fun (k18 : Nat) (h19 : Mem) =>
              St PG ty_api_Ref (Addr.mk k18 0 none) (Value.agg #[Value.int IntKind.u64 n13, Value.int IntKind.i64 n14, Value.int IntKind.i64 n15]) h19 fun (h20 : Mem) =>
                CallF PG fn_btree_Forest_Back [Value.pointer none, Value.int IntKind.i64 root, Value.string key]
                  (Kd.tup [Cmp.leaf Leaf.str, Cmp.agg [Leaf.int IntKind.u64, Leaf.int IntKind.i64, Leaf.int IntKind.i64], Cmp.leaf Leaf.bool]) h20
                  fun (t21 : ByteArray) (n22 n23 n24 : Int) (b25 : Bool) (h26 : Mem) =>
                  New (Obj.cells #[Value.int IntKind.u64 0, Value.int IntKind.i64 0, Value.int IntKind.i64 0] ty_api_Ref) h26 fun (k27 : Nat) (h28 : Mem) =>
                    St PG ty_api_Ref (Addr.mk k27 0 none) (Value.agg #[Value.int IntKind.u64 n22, Value.int IntKind.i64 n23, Value.int IntKind.i64 n24]) h28 fun (h29 : Mem) =>
                      CallF PG fn_dunnagelaw17_told [Value.pointer none, Value.int IntKind.i64 root] (Kd.tup [Cmp.leaf Leaf.sl, Cmp.leaf Leaf.bool]) h29
                        fun (s30 : Sl) (b31 : Bool) (h32 : Mem) =>
                        CallF PG fn_btree_New [Value.int IntKind.i64 words] (Kd.tup [Cmp.leaf Leaf.ptr, Cmp.leaf (Leaf.int IntKind.i64)]) h32
                          fun (q33 : Option Addr) (n34 : Int) (h35 : Mem) =>
                          ∃ (I36 : Bool → Mem → Prop),
                            (∀ (j37 : Fr) (b38 : Bool) (h39 : Mem),
                                I36 b38 h39 →
                                  CallF PG fn_dunnagelaw17_awake [] (Kd.one (Cmp.leaf Leaf.bool)) h39 fun (b40 : Bool) (h41 : Mem) =>
                                    ∃ (I42 : Bool → Mem → Prop),
                                      (∀ (j43 : Fr) (b44 : Bool) (h45 : Mem),
                                          I42 b44 h45 →
                                            ∃ (I46 : Bool → Mem → Prop),
                                              (∀ (j47 : Fr) (b48 : Bool) (h49 : Mem),
                                                  I46 b48 h49 →
                                                    ∃ (I50 : Bool → Mem → Prop),
                                                      (∀ (j51 : Fr) (b52 : Bool) (h53 : Mem),
                                                          I50 b52 h53 →
                                                            ∃ (I54 : Bool → Mem → Prop),
                                                              (∀ (j55 : Fr) (b56 : Bool) (h57 : Mem),
                                                                  I54 b56 h57 →
                                                                    ∃ (I58 : Bool → Mem → Prop),
                                                                      (∀ (j59 : Fr) (b60 : Bool) (h61 : Mem),
                                                                          I58 b60 h61 →
                                                                            ∃ (I62 : Bool → Mem → Prop),
                                                                              (∀ (j63 : Fr) (b64 : Bool) (h65 : Mem),
                                                                                  I62 b64 h65 →
                                                                                    ∃ (I66 : Bool → Mem → Prop),
                                                                                      (∀ (j67 : Fr) (b68 : Bool) (h69 : Mem),
                                                                                          I66 b68 h69 →
                                                                                            ∃ (I70 : Bool → Mem → Prop),
                                                                                              (∀ (j71 : Fr) (b72 : Bool) (h73 : Mem),
                                                                                                  I70 b72 h73 →
                                                                                                    ∃ (I74 : Bool → Mem → Prop),
                                                                                                      (∀ (j75 : Fr) (b76 : Bool) (h77 : Mem),
                                                                                                          I74 b76 h77 →
                                                                                                            ∃ (I78 : Bool → Mem → Prop),
                                                                                                              (∀ (j79 : Fr) (b80 : Bool) (h81 : Mem),
                                                                                                                  I78 b80 h81 →
                                                                                                                    ∃ (I82 : Bool → Mem → Prop),
                                                                                                                      (∀ (j83 : Fr) (b84 : Bool) (h85 : Mem),
                                                                                                                          I82 b84 h85 →
                                                                                                                            ∃ (I86 : Bool → Mem → Prop),
                                                                                                                              (∀ (j87 : Fr) (b88 : Bool) (h89 : Mem),
                                                                                                                                  I86 b88 h89 →
                                                                                                                                    Br b88
                                                                                                                                      (CallF PG fn_btree_Forest_Pack [Value.pointer none]
                                                                                                                                        (Kd.one (Cmp.leaf (Leaf.int IntKind.i64))) h89
                                                                                                                                        fun (n90 : Int) (h91 : Mem) =>
                                                                                                                                        Br (n90 == 0)
                                                                                                                                          (CallF PG fn_btree_Forest_Used [Value.pointer none]
                                                                                                                                            (Kd.one (Cmp.leaf (Leaf.int IntKind.i64)))
                                                                                                                                            h91 fun (n92 : Int) (h93 : Mem) =>
                                                                                                                                            Br (n92 == 0)
                                                                                                                                              (Br
                                                                                                                                                ((!match q33 with
                                                                                                                                                    | some p95 => false
                                                                                                                                                    | none => true) ==
                                                                                                                                                  b38)
                                                                                                                                                (Br ((n34 == 0) == b38)
                                                                                                                                                  (Br b38 (Q true h93)
                                                                                                                                                    (Q (n34 == 1) h93))
                                                                                                                                                  (Q false h93))
                                                                                                                                                (Q false h93))
                                                                                                                                              (Q false h93))
                                                                                                                                          (Q false h91))
                                                                                                                                      (Q false h89)) ∧
                                                                                                                                Br b84
                                                                                                                                  (CallF PG fn_btree_Forest_Refs [Value.pointer none]
                                                                                                                                    (Kd.one (Cmp.leaf Leaf.sl)) h85
                                                                                                                                    fun (s97 : Sl) (h98 : Mem) =>
                                                                                                                                    I86 ((↑s97.len : Int) == 0) h98)
                                                                                                                                  (I86 false h85)) ∧
                                                                                                                        Br b80
                                                                                                                          (CallF PG fn_btree_Forest_Patch 
                                                                                                                            [Value.pointer none,
                                                                                                                              Value.agg
                                                                                                                                #[Value.int IntKind.u64 1, Value.int IntKind.i64 0,
                                                                                                                                  Value.int IntKind.i64 2, Value.int IntKind.i64 0]]
                                                                                                                            (Kd.one (Cmp.leaf (Leaf.int IntKind.i64))) h81
                                                                                                                            fun (n99 : Int) (h100 : Mem) => I82 (n99 == 2) h100)
                                                                                                                          (I82 false h81)) ∧
                                                                                                                Br b76
                                                                                                                  (CallF PG fn_btree_Forest_Drop [Value.pointer none, Value.int IntKind.i64 root]
                                                                                                                    (Kd.one (Cmp.leaf (Leaf.int IntKind.i64))) h77
                                                                                                                    fun (n101 : Int) (h102 : Mem) => I78 (n101 == 2) h102)
                                                                                                                  (I78 false h77)) ∧
                                                                                                        Br b72
                                                                                                          (CallF PG fn_btree_Forest_Copy 
                                                                                                            [Value.pointer none, Value.int IntKind.i64 0, Value.int IntKind.i64 1]
                                                                                                            (Kd.one (Cmp.leaf (Leaf.int IntKind.i64))) h73
                                                                                                            fun (n103 : Int) (h104 : Mem) => I74 (n103 == 2) h104)
                                                                                                          (I74 false h73)) ∧
                                                                                                Br b68
                                                                                                  (CallF PG fn_btree_Forest_Len [Value.pointer none, Value.int IntKind.i64 root]
                                                                                                    (Kd.one (Cmp.leaf (Leaf.int IntKind.i64))) h69 fun (n105 : Int) (h106 : Mem) =>
                                                                                                    I70 (n105 == 0) h106)
                                                                                                  (I70 false h69)) ∧
                                                                                        Br b64 (I66 (!b25) h65) (I66 false h65)) ∧
                                                                                Br b60 (I62 (!b16) h61) (I62 false h61)) ∧
                                                                        Br b56 (I58 (!b7) h57) (I58 false h57)) ∧
                                                                Br b52 (I54 (n2 == 2) h53) (I54 false h53)) ∧
                                                        Br b48
                                                          (CallF PG fn_btree_Forest_Put 
                                                            [Value.pointer none, Value.int IntKind.i64 root, Value.string key,
                                                              Value.agg #[Value.int IntKind.u64 1, Value.int IntKind.i64 0, Value.int IntKind.i64 0]]
                                                            (Kd.one (Cmp.leaf (Leaf.int IntKind.i64))) h49 fun (n107 : Int) (h108 : Mem) => I50 (n107 == 2) h108)
                                                          (I50 false h49)) ∧
                                                Br b44 (I46 ((↑s30.len : Int) == 0) h45) (I46 false h45)) ∧
                                        Br b40 (I42 b31 h41) (I42 false h41)) ∧
                              Br (decide (words ≥ 16)) (I36 (decide (words ≤ 1048576)) h35) (I36 false h35)
theorem eq_dunnagelaw17_TreeNil (words : Int) (root : Int) (key : ByteArray) (h : Mem) (Q : Bool → Mem → Prop) : wp_dunnagelaw17_TreeNil words root key h Q = evFn PG fn_dunnagelaw17_TreeNil tab_dunnagelaw17_TreeNil [.int .i64 words, .int .i64 root, .string key] (.one (.leaf .bool)) h Q := by kernel_rfl
theorem ok_dunnagelaw17_TreeNil : okF PG fn_dunnagelaw17_TreeNil tab_dunnagelaw17_TreeNil = true := by kernel_rfl
theorem call_dunnagelaw17_TreeNil {words : Int} {root : Int} {key : ByteArray} {h : Mem} {Q : Bool → Mem → Prop} (hw' : wp_dunnagelaw17_TreeNil words root key h Q) : CallF PG fn_dunnagelaw17_TreeNil [.int .i64 words, .int .i64 root, .string key] (.one (.leaf .bool)) h Q := callF_of PM ok_dunnagelaw17_TreeNil (eq_dunnagelaw17_TreeNil words root key h Q ▸ hw')

/- 34: dunnage/dunnagelaw18.awake -/
def tab_dunnagelaw18_awake : Tab := ⟨[], [], []⟩
def wp_dunnagelaw18_awake  (h : Mem) (Q : Bool → Mem → Prop) : Prop :=
  CallF PG fn_btree_New [Value.int IntKind.i64 4096] (Kd.tup [Cmp.leaf Leaf.ptr, Cmp.leaf (Leaf.int IntKind.i64)]) h fun (q1 : Option Addr) (n2 : Int) (h3 : Mem) =>
    CallF PG fn_btree_Forest_Put 
      [Value.pointer q1, Value.int IntKind.i64 0, Value.string (ByteArray.mk #[97]), Value.agg #[Value.int IntKind.u64 1, Value.int IntKind.i64 0, Value.int IntKind.i64 0]]
      (Kd.one (Cmp.leaf (Leaf.int IntKind.i64))) h3 fun (n4 : Int) (h5 : Mem) =>
      CallF PG fn_cursor_New [Value.pointer q1, Value.int IntKind.i64 0, Value.string (ByteArray.mk #[]), Value.string (ByteArray.mk #[])]
        (Kd.tup [Cmp.leaf Leaf.ptr, Cmp.leaf (Leaf.int IntKind.i64)]) h5 fun (q6 : Option Addr) (n7 : Int) (h8 : Mem) =>
        Br (n7 == 0)
          (Br
            (!match q6 with
              | some p10 => false
              | none => true)
            (CallF PG fn_cursor_Cursor_First [Value.pointer q6] (Kd.one (Cmp.leaf Leaf.bool)) h8 fun (b12 : Bool) (h13 : Mem) => Q b12 h13) (Q false h8))
          (Q false h8)
theorem eq_dunnagelaw18_awake  (h : Mem) (Q : Bool → Mem → Prop) : wp_dunnagelaw18_awake  h Q = evFn PG fn_dunnagelaw18_awake tab_dunnagelaw18_awake [] (.one (.leaf .bool)) h Q := by kernel_rfl
theorem ok_dunnagelaw18_awake : okF PG fn_dunnagelaw18_awake tab_dunnagelaw18_awake = true := by kernel_rfl
theorem call_dunnagelaw18_awake {h : Mem} {Q : Bool → Mem → Prop} (hw' : wp_dunnagelaw18_awake  h Q) : CallF PG fn_dunnagelaw18_awake [] (.one (.leaf .bool)) h Q := callF_of PM ok_dunnagelaw18_awake (eq_dunnagelaw18_awake  h Q ▸ hw')

/- 35: dunnage/cursor.New -/
def tab_cursor_New : Tab := ⟨[], [], []⟩
def wp_cursor_New (f : Option Addr) (root : Int) (lo : ByteArray) (hi : ByteArray) (h : Mem) (Q : Option Addr → Int → Mem → Prop) : Prop :=
  Br
    (match f with
    | some p2 => false
    | none => true)
    (Q none 2 h)
    (Br (decide (root < 0)) (Q none 1 h)
      (Br (decide (root ≥ 16)) (Q none 1 h)
        (New (Obj.cells #[Value.pointer f, Value.int IntKind.i64 root, Value.string lo, Value.string hi, Value.bool false, Value.string (ByteArray.mk #[])] ty_cursor_Cursor) h
          fun (k4 : Nat) (h5 : Mem) => Q (some (Addr.mk k4 0 none)) 0 h5)))
theorem eq_cursor_New (f : Option Addr) (root : Int) (lo : ByteArray) (hi : ByteArray) (h : Mem) (Q : Option Addr → Int → Mem → Prop) : wp_cursor_New f root lo hi h Q = evFn PG fn_cursor_New tab_cursor_New [.pointer f, .int .i64 root, .string lo, .string hi] (.tup [(.leaf .ptr), (.leaf (.int .i64))]) h Q := by kernel_rfl
theorem ok_cursor_New : okF PG fn_cursor_New tab_cursor_New = true := by kernel_rfl
theorem call_cursor_New {f : Option Addr} {root : Int} {lo : ByteArray} {hi : ByteArray} {h : Mem} {Q : Option Addr → Int → Mem → Prop} (hw' : wp_cursor_New f root lo hi h Q) : CallF PG fn_cursor_New [.pointer f, .int .i64 root, .string lo, .string hi] (.tup [(.leaf .ptr), (.leaf (.int .i64))]) h Q := callF_of PM ok_cursor_New (eq_cursor_New f root lo hi h Q ▸ hw')

/- 37: (*dunnage/cursor.Cursor).First -/
def tab_cursor_Cursor_First : Tab := ⟨[], [], []⟩
def wp_cursor_Cursor_First (c : Option Addr) (h : Mem) (Q : Bool → Mem → Prop) : Prop :=
  Br
    (!match c with
      | some p2 => false
      | none => true)
    (Deref c fun (p4 : Addr) =>
      Ld PG ty_string (p4.add 2) (Kd.one (Cmp.leaf Leaf.str)) h fun (t5 : ByteArray) =>
        CallF PG fn_cursor_Cursor_above [Value.pointer c, Value.string t5] (Kd.one (Cmp.leaf Leaf.bool)) h fun (b6 : Bool) (h7 : Mem) => Q b6 h7)
    (Q false h)
theorem eq_cursor_Cursor_First (c : Option Addr) (h : Mem) (Q : Bool → Mem → Prop) : wp_cursor_Cursor_First c h Q = evFn PG fn_cursor_Cursor_First tab_cursor_Cursor_First [.pointer c] (.one (.leaf .bool)) h Q := by kernel_rfl
theorem ok_cursor_Cursor_First : okF PG fn_cursor_Cursor_First tab_cursor_Cursor_First = true := by kernel_rfl
theorem call_cursor_Cursor_First {c : Option Addr} {h : Mem} {Q : Bool → Mem → Prop} (hw' : wp_cursor_Cursor_First c h Q) : CallF PG fn_cursor_Cursor_First [.pointer c] (.one (.leaf .bool)) h Q := callF_of PM ok_cursor_Cursor_First (eq_cursor_Cursor_First c h Q ▸ hw')

/- 38: (*dunnage/cursor.Cursor).Next -/
def tab_cursor_Cursor_Next : Tab := ⟨[], [], []⟩
def wp_cursor_Cursor_Next (c : Option Addr) (h : Mem) (Q : Bool → Mem → Prop) : Prop :=
  Br
    (!match c with
      | some p2 => false
      | none => true)
    (Deref c fun (p4 : Addr) =>
      Ld PG ty_string (p4.add 5) (Kd.one (Cmp.leaf Leaf.str)) h fun (t5 : ByteArray) =>
        CallF PG fn_keys_Next [Value.string t5] (Kd.one (Cmp.leaf Leaf.str)) h fun (t6 : ByteArray) (h7 : Mem) =>
          CallF PG fn_cursor_Cursor_step [Value.pointer c, Value.func (Fn.func fn_cursor_Cursor_First) #[] #[], Value.func (Fn.func fn_cursor_Cursor_above) #[] #[], Value.string t6] (Kd.one (Cmp.leaf Leaf.bool)) h7
            fun (b8 : Bool) (h9 : Mem) => Q b8 h9)
    (Q false h)
theorem eq_cursor_Cursor_Next (c : Option Addr) (h : Mem) (Q : Bool → Mem → Prop) : wp_cursor_Cursor_Next c h Q = evFn PG fn_cursor_Cursor_Next tab_cursor_Cursor_Next [.pointer c] (.one (.leaf .bool)) h Q := by kernel_rfl
theorem ok_cursor_Cursor_Next : okF PG fn_cursor_Cursor_Next tab_cursor_Cursor_Next = true := by kernel_rfl
theorem call_cursor_Cursor_Next {c : Option Addr} {h : Mem} {Q : Bool → Mem → Prop} (hw' : wp_cursor_Cursor_Next c h Q) : CallF PG fn_cursor_Cursor_Next [.pointer c] (.one (.leaf .bool)) h Q := callF_of PM ok_cursor_Cursor_Next (eq_cursor_Cursor_Next c h Q ▸ hw')

/- 39: (*dunnage/cursor.Cursor).Entry -/
def tab_cursor_Cursor_Entry : Tab := ⟨[], [], [(3, .nil), (1, (chainT [(0, false), (1, false), (2, false)] (.join ⟨[(14, .leaf .bool)], [9, 10, 11, 12, 13]⟩ (chainT [(3, false), (4, false), (5, false), (6, false), (7, false), (8, false)] .nil) .nil)))]⟩
def wp_cursor_Cursor_Entry (c : Option Addr) (h : Mem) (Q : ByteArray → Int → Int → Int → Bool → Mem → Prop) : Prop :=
  New (Obj.cells #[Value.string (ByteArray.mk #[]), Value.int IntKind.u64 0, Value.int IntKind.i64 0, Value.int IntKind.i64 0] ty_api_Entry) h fun (k1 : Nat) (h2 : Mem) =>
    ∃ (I3 : Bool → Mem → Prop),
      (∀ (j4 : Fr) (b5 : Bool) (h6 : Mem),
          I3 b5 h6 →
            Br b5
              (St PG ty_api_Entry (Addr.mk k1 0 none) (Value.agg #[Value.string (ByteArray.mk #[]), Value.int IntKind.u64 0, Value.int IntKind.i64 0, Value.int IntKind.i64 0]) h6
                fun (h7 : Mem) =>
                Ld PG ty_api_Entry (Addr.mk k1 0 none) (Kd.one (Cmp.agg [Leaf.str, Leaf.int IntKind.u64, Leaf.int IntKind.i64, Leaf.int IntKind.i64])) h7
                  fun (t8 : ByteArray) (n9 n10 n11 : Int) => Q t8 n9 n10 n11 false h7)
              (Deref c fun (p12 : Addr) =>
                Ld PG ty_ptr_btree_Forest p12 (Kd.one (Cmp.leaf Leaf.ptr)) h6 fun (q13 : Option Addr) =>
                  Deref c fun (p14 : Addr) =>
                    Ld PG ty_int (p14.add 1) (Kd.one (Cmp.leaf (Leaf.int IntKind.i64))) h6 fun (n15 : Int) =>
                      Deref c fun (p16 : Addr) =>
                        Ld PG ty_string (p16.add 5) (Kd.one (Cmp.leaf Leaf.str)) h6 fun (t17 : ByteArray) =>
                          (CallF PG fn_btree_Forest_Get [Value.pointer q13, Value.int IntKind.i64 n15, Value.string t17]
                              (Kd.tup [Cmp.agg [Leaf.int IntKind.u64, Leaf.int IntKind.i64, Leaf.int IntKind.i64], Cmp.leaf Leaf.bool]) h6
                              fun (n18 n19 n20 : Int) (b21 : Bool) (h22 : Mem) =>
                              New (Obj.cells #[Value.int IntKind.u64 0, Value.int IntKind.i64 0, Value.int IntKind.i64 0] ty_api_Ref) h22 fun (k23 : Nat) (h24 : Mem) =>
                                St PG ty_api_Ref (Addr.mk k23 0 none) (Value.agg #[Value.int IntKind.u64 n18, Value.int IntKind.i64 n19, Value.int IntKind.i64 n20]) h24
                                  fun (h25 : Mem) =>
                                  Br (!b21)
                                    (St PG ty_api_Entry (Addr.mk k1 0 none)
                                      (Value.agg #[Value.string (ByteArray.mk #[]), Value.int IntKind.u64 0, Value.int IntKind.i64 0, Value.int IntKind.i64 0]) h25 fun (h26 : Mem) =>
                                      Ld PG ty_api_Entry (Addr.mk k1 0 none) (Kd.one (Cmp.agg [Leaf.str, Leaf.int IntKind.u64, Leaf.int IntKind.i64, Leaf.int IntKind.i64])) h26
                                        fun (t27 : ByteArray) (n28 n29 n30 : Int) => Q t27 n28 n29 n30 false h26)
                                    (Deref c fun (p31 : Addr) =>
                                      Ld PG ty_string (p31.add 5) (Kd.one (Cmp.leaf Leaf.str)) h25 fun (t32 : ByteArray) =>
                                        Ld PG ty_api_Ref (Addr.mk k23 0 none) (Kd.one (Cmp.agg [Leaf.int IntKind.u64, Leaf.int IntKind.i64, Leaf.int IntKind.i64])) h25
                                          fun (n33 n34 n35 : Int) =>
                                          St PG ty_api_Entry (Addr.mk k1 0 none)
                                            (Value.agg #[Value.string t32, Value.int IntKind.u64 n33, Value.int IntKind.i64 n34, Value.int IntKind.i64 n35]) h25 fun (h36 : Mem) =>
                                            Ld PG ty_api_Entry (Addr.mk k1 0 none) (Kd.one (Cmp.agg [Leaf.str, Leaf.int IntKind.u64, Leaf.int IntKind.i64, Leaf.int IntKind.i64])) h36
                                              fun (t37 : ByteArray) (n38 n39 n40 : Int) => Q t37 n38 n39 n40 true h36)) ∧
                            New (Obj.cells #[Value.int IntKind.u64 0, Value.int IntKind.i64 0, Value.int IntKind.i64 0] ty_api_Ref) h6 fun (k41 : Nat) (h42 : Mem) =>
                              (Ld PG ty_string (p16.add 5) (Kd.one (Cmp.leaf Leaf.str)) h42 fun (t43 : ByteArray) => Value.string t43 = Value.string t17) ∧
                                (Ld PG ty_int (p14.add 1) (Kd.one (Cmp.leaf (Leaf.int IntKind.i64))) h42 fun (n44 : Int) => Value.int IntKind.i64 n44 = Value.int IntKind.i64 n15) ∧
                                  (Ld PG ty_ptr_btree_Forest p12 (Kd.one (Cmp.leaf Leaf.ptr)) h42 fun (q45 : Option Addr) => Value.pointer q45 = Value.pointer q13) ∧
                                    CallF PG fn_btree_Forest_Get [Value.pointer q13, Value.int IntKind.i64 n15, Value.string t17]
                                      (Kd.tup [Cmp.agg [Leaf.int IntKind.u64, Leaf.int IntKind.i64, Leaf.int IntKind.i64], Cmp.leaf Leaf.bool]) h42
                                      fun (n46 n47 n48 : Int) (b49 : Bool) (h50 : Mem) =>
                                      St PG ty_api_Ref (Addr.mk k41 0 none) (Value.agg #[Value.int IntKind.u64 n46, Value.int IntKind.i64 n47, Value.int IntKind.i64 n48]) h50
                                        fun (h51 : Mem) =>
                                        Br (!b49)
                                          (St PG ty_api_Entry (Addr.mk k1 0 none)
                                            (Value.agg #[Value.string (ByteArray.mk #[]), Value.int IntKind.u64 0, Value.int IntKind.i64 0, Value.int IntKind.i64 0]) h51
                                            fun (h52 : Mem) =>
                                            Ld PG ty_api_Entry (Addr.mk k1 0 none) (Kd.one (Cmp.agg [Leaf.str, Leaf.int IntKind.u64, Leaf.int IntKind.i64, Leaf.int IntKind.i64])) h52
                                              fun (t53 : ByteArray) (n54 n55 n56 : Int) => Q t53 n54 n55 n56 false h52)
                                          (Deref c fun (p57 : Addr) =>
                                            Ld PG ty_string (p57.add 5) (Kd.one (Cmp.leaf Leaf.str)) h51 fun (t58 : ByteArray) =>
                                              Ld PG ty_api_Ref (Addr.mk k41 0 none) (Kd.one (Cmp.agg [Leaf.int IntKind.u64, Leaf.int IntKind.i64, Leaf.int IntKind.i64])) h51
                                                fun (n59 n60 n61 : Int) =>
                                                St PG ty_api_Entry (Addr.mk k1 0 none)
                                                  (Value.agg #[Value.string t58, Value.int IntKind.u64 n59, Value.int IntKind.i64 n60, Value.int IntKind.i64 n61]) h51
                                                  fun (h62 : Mem) =>
                                                  Ld PG ty_api_Entry (Addr.mk k1 0 none) (Kd.one (Cmp.agg [Leaf.str, Leaf.int IntKind.u64, Leaf.int IntKind.i64, Leaf.int IntKind.i64]))
                                                    h62 fun (t63 : ByteArray) (n64 n65 n66 : Int) => Q t63 n64 n65 n66 true h62))) ∧
        Br
          (match c with
          | some p68 => false
          | none => true)
          (I3 true h2) (Deref c fun (p70 : Addr) => Ld PG ty_bool (p70.add 4) (Kd.one (Cmp.leaf Leaf.bool)) h2 fun (b71 : Bool) => I3 (!b71) h2)
theorem eq_cursor_Cursor_Entry (c : Option Addr) (h : Mem) (Q : ByteArray → Int → Int → Int → Bool → Mem → Prop) : wp_cursor_Cursor_Entry c h Q = evFn PG fn_cursor_Cursor_Entry tab_cursor_Cursor_Entry [.pointer c] (.tup [(.agg [.str, (.int .u64), (.int .i64), (.int .i64)]), (.leaf .bool)]) h Q := by kernel_rfl
theorem ok_cursor_Cursor_Entry : okF PG fn_cursor_Cursor_Entry tab_cursor_Cursor_Entry = true := by kernel_rfl
theorem call_cursor_Cursor_Entry {c : Option Addr} {h : Mem} {Q : ByteArray → Int → Int → Int → Bool → Mem → Prop} (hw' : wp_cursor_Cursor_Entry c h Q) : CallF PG fn_cursor_Cursor_Entry [.pointer c] (.tup [(.agg [.str, (.int .u64), (.int .i64), (.int .i64)]), (.leaf .bool)]) h Q := callF_of PM ok_cursor_Cursor_Entry (eq_cursor_Cursor_Entry c h Q ▸ hw')

/- 40: (*dunnage/cursor.Cursor).Last -/
def tab_cursor_Cursor_Last : Tab := ⟨[], [], []⟩
def wp_cursor_Cursor_Last (c : Option Addr) (h : Mem) (Q : Bool → Mem → Prop) : Prop :=
  Br
    (!match c with
      | some p2 => false
      | none => true)
    (CallF PG fn_cursor_Cursor_below [Value.pointer c, Value.string (ByteArray.mk #[])] (Kd.one (Cmp.leaf Leaf.bool)) h fun (b4 : Bool) (h5 : Mem) => Q b4 h5) (Q false h)
theorem eq_cursor_Cursor_Last (c : Option Addr) (h : Mem) (Q : Bool → Mem → Prop) : wp_cursor_Cursor_Last c h Q = evFn PG fn_cursor_Cursor_Last tab_cursor_Cursor_Last [.pointer c] (.one (.leaf .bool)) h Q := by kernel_rfl
theorem ok_cursor_Cursor_Last : okF PG fn_cursor_Cursor_Last tab_cursor_Cursor_Last = true := by kernel_rfl
theorem call_cursor_Cursor_Last {c : Option Addr} {h : Mem} {Q : Bool → Mem → Prop} (hw' : wp_cursor_Cursor_Last c h Q) : CallF PG fn_cursor_Cursor_Last [.pointer c] (.one (.leaf .bool)) h Q := callF_of PM ok_cursor_Cursor_Last (eq_cursor_Cursor_Last c h Q ▸ hw')

/- 41: (*dunnage/cursor.Cursor).Prev -/
def tab_cursor_Cursor_Prev : Tab := ⟨[], [], []⟩
def wp_cursor_Cursor_Prev (c : Option Addr) (h : Mem) (Q : Bool → Mem → Prop) : Prop :=
  Br
    (!match c with
      | some p2 => false
      | none => true)
    (Deref c fun (p4 : Addr) =>
      Ld PG ty_string (p4.add 5) (Kd.one (Cmp.leaf Leaf.str)) h fun (t5 : ByteArray) =>
        CallF PG fn_cursor_Cursor_step [Value.pointer c, Value.func (Fn.func fn_cursor_Cursor_Last) #[] #[], Value.func (Fn.func fn_cursor_Cursor_below) #[] #[], Value.string t5] (Kd.one (Cmp.leaf Leaf.bool)) h
          fun (b6 : Bool) (h7 : Mem) => Q b6 h7)
    (Q false h)
theorem eq_cursor_Cursor_Prev (c : Option Addr) (h : Mem) (Q : Bool → Mem → Prop) : wp_cursor_Cursor_Prev c h Q = evFn PG fn_cursor_Cursor_Prev tab_cursor_Cursor_Prev [.pointer c] (.one (.leaf .bool)) h Q := by kernel_rfl
theorem ok_cursor_Cursor_Prev : okF PG fn_cursor_Cursor_Prev tab_cursor_Cursor_Prev = true := by kernel_rfl
theorem call_cursor_Cursor_Prev {c : Option Addr} {h : Mem} {Q : Bool → Mem → Prop} (hw' : wp_cursor_Cursor_Prev c h Q) : CallF PG fn_cursor_Cursor_Prev [.pointer c] (.one (.leaf .bool)) h Q := callF_of PM ok_cursor_Cursor_Prev (eq_cursor_Cursor_Prev c h Q ▸ hw')

/- 42: (*dunnage/cursor.Cursor).Seek -/
def tab_cursor_Cursor_Seek : Tab := ⟨[], [], []⟩
def wp_cursor_Cursor_Seek (c : Option Addr) (key : ByteArray) (h : Mem) (Q : Bool → Mem → Prop) : Prop :=
  Br
    (!match c with
      | some p2 => false
      | none => true)
    (CallF PG fn_cursor_Cursor_above [Value.pointer c, Value.string key] (Kd.one (Cmp.leaf Leaf.bool)) h fun (b4 : Bool) (h5 : Mem) => Q b4 h5) (Q false h)
theorem eq_cursor_Cursor_Seek (c : Option Addr) (key : ByteArray) (h : Mem) (Q : Bool → Mem → Prop) : wp_cursor_Cursor_Seek c key h Q = evFn PG fn_cursor_Cursor_Seek tab_cursor_Cursor_Seek [.pointer c, .string key] (.one (.leaf .bool)) h Q := by kernel_rfl
theorem ok_cursor_Cursor_Seek : okF PG fn_cursor_Cursor_Seek tab_cursor_Cursor_Seek = true := by kernel_rfl
theorem call_cursor_Cursor_Seek {c : Option Addr} {key : ByteArray} {h : Mem} {Q : Bool → Mem → Prop} (hw' : wp_cursor_Cursor_Seek c key h Q) : CallF PG fn_cursor_Cursor_Seek [.pointer c, .string key] (.one (.leaf .bool)) h Q := callF_of PM ok_cursor_Cursor_Seek (eq_cursor_Cursor_Seek c key h Q ▸ hw')

/- 45: dunnage/dunnagelaw18.rest; range 7: [] -/
def tab_dunnagelaw18_rest : Tab := ⟨[(7, ⟨[(14, .agg [.str, .int .u64, .int .i64, .int .i64])], []⟩)], [], []⟩
def wp_dunnagelaw18_rest (c : Option Addr) (n : Int) (h : Mem) (Q : Sl → Bool → Mem → Prop) : Prop :=
  New (Obj.cells #[Value.int IntKind.i64 n] ty_int) h fun (k1 : Nat) (h2 : Mem) =>
    CallF PG fn_cursor_Cursor_Rest [Value.pointer c] (Kd.one (Cmp.leaf Leaf.raw)) h2 fun (v3 : Value) (h4 : Mem) =>
      NilF v3 fun (b5 : Bool) =>
        Br b5 (Q (Sl.mk none 0 0) false h4)
          (New (Obj.cells #[Value.slice none 0 0] ty_sl_api_Entry) h4 fun (k6 : Nat) (h7 : Mem) =>
            RangeFn PG v3 h7 [Cmp.agg [Leaf.str, Leaf.int IntKind.u64, Leaf.int IntKind.i64, Leaf.int IntKind.i64]]
              (fun (t8 : ByteArray) (n9 n10 n11 : Int) (h12 : Mem) (I13 : Mem → (Mem → Prop) → Prop) (I14 I15 I16 : Mem → Prop) =>
                New (Obj.cells #[Value.string (ByteArray.mk #[]), Value.int IntKind.u64 0, Value.int IntKind.i64 0, Value.int IntKind.i64 0] ty_api_Entry) h12 fun (k17 : Nat) (h18 : Mem) =>
                  St PG ty_api_Entry (Addr.mk k17 0 none) (Value.agg #[Value.string t8, Value.int IntKind.u64 n9, Value.int IntKind.i64 n10, Value.int IntKind.i64 n11]) h18
                    fun (h19 : Mem) =>
                    I13 h19 fun (h20 : Mem) =>
                      Ld PG ty_sl_api_Entry (Addr.mk k6 0 none) (Kd.one (Cmp.leaf Leaf.sl)) h20 fun (s21 : Sl) =>
                        Ld PG ty_api_Entry (Addr.mk k17 0 none) (Kd.one (Cmp.agg [Leaf.str, Leaf.int IntKind.u64, Leaf.int IntKind.i64, Leaf.int IntKind.i64])) h20
                          fun (t22 : ByteArray) (n23 n24 n25 : Int) =>
                          New (Obj.cells #[Value.string t22, Value.int IntKind.u64 n23, Value.int IntKind.i64 n24, Value.int IntKind.i64 n25] ty_api_Entry) h20 fun (k26 : Nat) (h27 : Mem) =>
                            PrimT PG (Builtin.append_ #[ty_sl_api_Entry, ty_sl_api_Entry] ty_sl_api_Entry #[Value.slice s21.a s21.len s21.cap, Value.slice (some (Addr.mk k26 0 none)) 1 1])
                              (Kd.one (Cmp.leaf Leaf.sl)) h27 fun (s28 : Sl) (h29 : Mem) =>
                              St PG ty_sl_api_Entry (Addr.mk k6 0 none) (Value.slice s28.a s28.len s28.cap) h29 fun (h30 : Mem) =>
                                Ld PG ty_sl_api_Entry (Addr.mk k6 0 none) (Kd.one (Cmp.leaf Leaf.sl)) h30 fun (s31 : Sl) =>
                                  Ld PG ty_int (Addr.mk k1 0 none) (Kd.one (Cmp.leaf (Leaf.int IntKind.i64))) h30 fun (n32 : Int) =>
                                    Br (decide ((↑s31.len : Int) ≥ n32)) (I15 h30) (I14 h30))
              (fun (h33 : Mem) =>
                Ld PG ty_sl_api_Entry (Addr.mk k6 0 none) (Kd.one (Cmp.leaf Leaf.sl)) h33 fun (s34 : Sl) =>
                  h33[Array.size h7]? = some (Obj.deferred (some [])) ∧ Q (Sl.mk s34.a s34.len s34.cap) true (Array.setIfInBounds h33 (Array.size h7) (Obj.deferred none)))
              (fun (h37 : Mem) =>
                Ld PG ty_sl_api_Entry (Addr.mk k6 0 none) (Kd.one (Cmp.leaf Leaf.sl)) h37 fun (s38 : Sl) =>
                  h37[Array.size h7]? = some (Obj.deferred (some [])) ∧ Q (Sl.mk s38.a s38.len s38.cap) true (Array.setIfInBounds h37 (Array.size h7) (Obj.deferred none)))
              (fun (h41 : Mem) => h41[Array.size h7]? = some (Obj.deferred (some [])) ∧ Q (Sl.mk none 0 0) false (Array.setIfInBounds h41 (Array.size h7) (Obj.deferred none))) 0)
theorem eq_dunnagelaw18_rest (c : Option Addr) (n : Int) (h : Mem) (Q : Sl → Bool → Mem → Prop) : wp_dunnagelaw18_rest c n h Q = evFn PG fn_dunnagelaw18_rest tab_dunnagelaw18_rest [.pointer c, .int .i64 n] (.tup [(.leaf .sl), (.leaf .bool)]) h Q := by kernel_rfl
theorem ok_dunnagelaw18_rest : okF PG fn_dunnagelaw18_rest tab_dunnagelaw18_rest = true := by kernel_rfl
theorem call_dunnagelaw18_rest {c : Option Addr} {n : Int} {h : Mem} {Q : Sl → Bool → Mem → Prop} (hw' : wp_dunnagelaw18_rest c n h Q) : CallF PG fn_dunnagelaw18_rest [.pointer c, .int .i64 n] (.tup [(.leaf .sl), (.leaf .bool)]) h Q := callF_of PM ok_dunnagelaw18_rest (eq_dunnagelaw18_rest c n h Q ▸ hw')

/- 80: (*dunnage/cursor.Cursor).above -/
def tab_cursor_Cursor_above : Tab := ⟨[], [], [(1, .nil)]⟩
def wp_cursor_Cursor_above (c : Option Addr) (text : ByteArray) (h : Mem) (Q : Bool → Mem → Prop) : Prop :=
  Deref c fun (p1 : Addr) =>
    Ld PG ty_ptr_btree_Forest p1 (Kd.one (Cmp.leaf Leaf.ptr)) h fun (q2 : Option Addr) =>
      Deref c fun (p3 : Addr) =>
        Ld PG ty_int (p3.add 1) (Kd.one (Cmp.leaf (Leaf.int IntKind.i64))) h fun (n4 : Int) =>
          Deref c fun (p5 : Addr) =>
            Ld PG ty_string (p5.add 2) (Kd.one (Cmp.leaf Leaf.str)) h fun (t6 : ByteArray) =>
              (CallF PG fn_btree_Forest_Seek [Value.pointer q2, Value.int IntKind.i64 n4, Value.string (bif !sLt text t6 then text else t6)]
                  (Kd.tup [Cmp.leaf Leaf.str, Cmp.agg [Leaf.int IntKind.u64, Leaf.int IntKind.i64, Leaf.int IntKind.i64], Cmp.leaf Leaf.bool]) h
                  fun (t7 : ByteArray) (n8 n9 n10 : Int) (b11 : Bool) (h12 : Mem) =>
                  New (Obj.cells #[Value.int IntKind.u64 0, Value.int IntKind.i64 0, Value.int IntKind.i64 0] ty_api_Ref) h12 fun (k13 : Nat) (h14 : Mem) =>
                    St PG ty_api_Ref (Addr.mk k13 0 none) (Value.agg #[Value.int IntKind.u64 n8, Value.int IntKind.i64 n9, Value.int IntKind.i64 n10]) h14 fun (h15 : Mem) =>
                      CallF PG fn_cursor_Cursor_at [Value.pointer c, Value.string t7, Value.bool b11] (Kd.one (Cmp.leaf Leaf.bool)) h15 fun (b16 : Bool) (h17 : Mem) => Q b16 h17) ∧
                New (Obj.cells #[Value.int IntKind.u64 0, Value.int IntKind.i64 0, Value.int IntKind.i64 0] ty_api_Ref) h fun (k18 : Nat) (h19 : Mem) =>
                  (Ld PG ty_string (p5.add 2) (Kd.one (Cmp.leaf Leaf.str)) h19 fun (t20 : ByteArray) => Value.string t20 = Value.string t6) ∧
                    (Ld PG ty_int (p3.add 1) (Kd.one (Cmp.leaf (Leaf.int IntKind.i64))) h19 fun (n21 : Int) => Value.int IntKind.i64 n21 = Value.int IntKind.i64 n4) ∧
                      (Ld PG ty_ptr_btree_Forest p1 (Kd.one (Cmp.leaf Leaf.ptr)) h19 fun (q22 : Option Addr) => Value.pointer q22 = Value.pointer q2) ∧
                        CallF PG fn_btree_Forest_Seek [Value.pointer q2, Value.int IntKind.i64 n4, Value.string (bif !sLt text t6 then text else t6)]
                          (Kd.tup [Cmp.leaf Leaf.str, Cmp.agg [Leaf.int IntKind.u64, Leaf.int IntKind.i64, Leaf.int IntKind.i64], Cmp.leaf Leaf.bool]) h19
                          fun (t23 : ByteArray) (n24 n25 n26 : Int) (b27 : Bool) (h28 : Mem) =>
                          St PG ty_api_Ref (Addr.mk k18 0 none) (Value.agg #[Value.int IntKind.u64 n24, Value.int IntKind.i64 n25, Value.int IntKind.i64 n26]) h28 fun (h29 : Mem) =>
                            CallF PG fn_cursor_Cursor_at [Value.pointer c, Value.string t23, Value.bool b27] (Kd.one (Cmp.leaf Leaf.bool)) h29 fun (b30 : Bool) (h31 : Mem) => Q b30 h31
theorem eq_cursor_Cursor_above (c : Option Addr) (text : ByteArray) (h : Mem) (Q : Bool → Mem → Prop) : wp_cursor_Cursor_above c text h Q = evFn PG fn_cursor_Cursor_above tab_cursor_Cursor_above [.pointer c, .string text] (.one (.leaf .bool)) h Q := by kernel_rfl
theorem ok_cursor_Cursor_above : okF PG fn_cursor_Cursor_above tab_cursor_Cursor_above = true := by kernel_rfl
theorem call_cursor_Cursor_above {c : Option Addr} {text : ByteArray} {h : Mem} {Q : Bool → Mem → Prop} (hw' : wp_cursor_Cursor_above c text h Q) : CallF PG fn_cursor_Cursor_above [.pointer c, .string text] (.one (.leaf .bool)) h Q := callF_of PM ok_cursor_Cursor_above (eq_cursor_Cursor_above c text h Q ▸ hw')

/- 81: (*dunnage/cursor.Cursor).step -/
def tab_cursor_Cursor_step : Tab := ⟨[], [], []⟩
def wp_cursor_Cursor_step (c : Option Addr) (begin : Value) (on : Value) (text : ByteArray) (h : Mem) (Q : Bool → Mem → Prop) : Prop :=
  Deref c fun (p1 : Addr) =>
    Ld PG ty_bool (p1.add 4) (Kd.one (Cmp.leaf Leaf.bool)) h fun (b2 : Bool) =>
      Br (!b2) (CallV PG begin [Value.pointer c] (Kd.one (Cmp.leaf Leaf.bool)) h fun (b3 : Bool) (h4 : Mem) => Q b3 h4)
        (CallV PG on [Value.pointer c, Value.string text] (Kd.one (Cmp.leaf Leaf.bool)) h fun (b5 : Bool) (h6 : Mem) => Q b5 h6)
theorem eq_cursor_Cursor_step (c : Option Addr) (begin : Value) (on : Value) (text : ByteArray) (h : Mem) (Q : Bool → Mem → Prop) : wp_cursor_Cursor_step c begin on text h Q = evFn PG fn_cursor_Cursor_step tab_cursor_Cursor_step [.pointer c, begin, on, .string text] (.one (.leaf .bool)) h Q := by kernel_rfl
theorem ok_cursor_Cursor_step : okF PG fn_cursor_Cursor_step tab_cursor_Cursor_step = true := by kernel_rfl
theorem call_cursor_Cursor_step {c : Option Addr} {begin : Value} {on : Value} {text : ByteArray} {h : Mem} {Q : Bool → Mem → Prop} (hw' : wp_cursor_Cursor_step c begin on text h Q) : CallF PG fn_cursor_Cursor_step [.pointer c, begin, on, .string text] (.one (.leaf .bool)) h Q := callF_of PM ok_cursor_Cursor_step (eq_cursor_Cursor_step c begin on text h Q ▸ hw')

/- 82: dunnage/keys.Next -/
def tab_keys_Next : Tab := ⟨[], [], []⟩
def wp_keys_Next (key : ByteArray) (h : Mem) (Q : ByteArray → Mem → Prop) : Prop :=
  Chk ((key.size + 1).ble 9223372036854775807) (Q (key ++ ByteArray.mk #[0]) h)
theorem eq_keys_Next (key : ByteArray) (h : Mem) (Q : ByteArray → Mem → Prop) : wp_keys_Next key h Q = evFn PG fn_keys_Next tab_keys_Next [.string key] (.one (.leaf .str)) h Q := by kernel_rfl
theorem ok_keys_Next : okF PG fn_keys_Next tab_keys_Next = true := by kernel_rfl
theorem call_keys_Next {key : ByteArray} {h : Mem} {Q : ByteArray → Mem → Prop} (hw' : wp_keys_Next key h Q) : CallF PG fn_keys_Next [.string key] (.one (.leaf .str)) h Q := callF_of PM ok_keys_Next (eq_keys_Next key h Q ▸ hw')

/- 83: (*dunnage/cursor.Cursor).below -/
def tab_cursor_Cursor_below : Tab := ⟨[], [], [(3, .nil), (1, (chainT [(0, false), (1, false), (2, false)] (.join ⟨[(24, .leaf .bool)], [11, 12, 13, 14, 15, 16, 17, 18, 19, 20, 21, 22, 23]⟩ (chainT [(3, false), (4, false), (5, false), (6, false), (7, false), (8, false), (9, false), (10, false), (11, false), (12, false), (13, false), (14, false), (15, false), (16, false)] .nil) .nil)))]⟩
def wp_cursor_Cursor_below (c : Option Addr) (text : ByteArray) (h : Mem) (Q : Bool → Mem → Prop) : Prop :=
  ∃ (I1 : Bool → Mem → Prop),
    (∀ (j2 : Fr) (b3 : Bool) (h4 : Mem),
        I1 b3 h4 →
          Br b3
            (Deref c fun (p5 : Addr) =>
              Ld PG ty_string (p5.add 3) (Kd.one (Cmp.leaf Leaf.str)) h4 fun (t6 : ByteArray) =>
                Deref c fun (p7 : Addr) =>
                  Ld PG ty_ptr_btree_Forest p7 (Kd.one (Cmp.leaf Leaf.ptr)) h4 fun (q8 : Option Addr) =>
                    Deref c fun (p9 : Addr) =>
                      Ld PG ty_int (p9.add 1) (Kd.one (Cmp.leaf (Leaf.int IntKind.i64))) h4 fun (n10 : Int) =>
                        (CallF PG fn_cursor_ahead [Value.string t6] (Kd.one (Cmp.leaf Leaf.str)) h4 fun (t11 : ByteArray) (h12 : Mem) =>
                            (Ld PG ty_int (p9.add 1) (Kd.one (Cmp.leaf (Leaf.int IntKind.i64))) h12 fun (n13 : Int) => Value.int IntKind.i64 n13 = Value.int IntKind.i64 n10) ∧
                              (Ld PG ty_ptr_btree_Forest p7 (Kd.one (Cmp.leaf Leaf.ptr)) h12 fun (q14 : Option Addr) => Value.pointer q14 = Value.pointer q8) ∧
                                (CallF PG fn_btree_Forest_Back [Value.pointer q8, Value.int IntKind.i64 n10, Value.string t11]
                                    (Kd.tup [Cmp.leaf Leaf.str, Cmp.agg [Leaf.int IntKind.u64, Leaf.int IntKind.i64, Leaf.int IntKind.i64], Cmp.leaf Leaf.bool]) h12
                                    fun (t15 : ByteArray) (n16 n17 n18 : Int) (b19 : Bool) (h20 : Mem) =>
                                    New (Obj.cells #[Value.int IntKind.u64 0, Value.int IntKind.i64 0, Value.int IntKind.i64 0] ty_api_Ref) h20 fun (k21 : Nat) (h22 : Mem) =>
                                      St PG ty_api_Ref (Addr.mk k21 0 none) (Value.agg #[Value.int IntKind.u64 n16, Value.int IntKind.i64 n17, Value.int IntKind.i64 n18]) h22
                                        fun (h23 : Mem) =>
                                        CallF PG fn_cursor_Cursor_at [Value.pointer c, Value.string t15, Value.bool b19] (Kd.one (Cmp.leaf Leaf.bool)) h23 fun (b24 : Bool) (h25 : Mem) =>
                                          Q b24 h25) ∧
                                  New (Obj.cells #[Value.int IntKind.u64 0, Value.int IntKind.i64 0, Value.int IntKind.i64 0] ty_api_Ref) h12 fun (k26 : Nat) (h27 : Mem) =>
                                    (Ld PG ty_int (p9.add 1) (Kd.one (Cmp.leaf (Leaf.int IntKind.i64))) h27 fun (n28 : Int) =>
                                        Value.int IntKind.i64 n28 = Value.int IntKind.i64 n10) ∧
                                      (Ld PG ty_ptr_btree_Forest p7 (Kd.one (Cmp.leaf Leaf.ptr)) h27 fun (q29 : Option Addr) => Value.pointer q29 = Value.pointer q8) ∧
                                        CallF PG fn_btree_Forest_Back [Value.pointer q8, Value.int IntKind.i64 n10, Value.string t11]
                                          (Kd.tup [Cmp.leaf Leaf.str, Cmp.agg [Leaf.int IntKind.u64, Leaf.int IntKind.i64, Leaf.int IntKind.i64], Cmp.leaf Leaf.bool]) h27
                                          fun (t30 : ByteArray) (n31 n32 n33 : Int) (b34 : Bool) (h35 : Mem) =>
                                          St PG ty_api_Ref (Addr.mk k26 0 none) (Value.agg #[Value.int IntKind.u64 n31, Value.int IntKind.i64 n32, Value.int IntKind.i64 n33]) h35
                                            fun (h36 : Mem) =>
                                            CallF PG fn_cursor_Cursor_at [Value.pointer c, Value.string t30, Value.bool b34] (Kd.one (Cmp.leaf Leaf.bool)) h36 fun (b37 : Bool) (h38 : Mem) =>
                                              Q b37 h38) ∧
                          New (Obj.cells #[Value.int IntKind.u64 0, Value.int IntKind.i64 0, Value.int IntKind.i64 0] ty_api_Ref) h4 fun (k39 : Nat) (h40 : Mem) =>
                            (Ld PG ty_int (p9.add 1) (Kd.one (Cmp.leaf (Leaf.int IntKind.i64))) h40 fun (n41 : Int) => Value.int IntKind.i64 n41 = Value.int IntKind.i64 n10) ∧
                              (Ld PG ty_ptr_btree_Forest p7 (Kd.one (Cmp.leaf Leaf.ptr)) h40 fun (q42 : Option Addr) => Value.pointer q42 = Value.pointer q8) ∧
                                CallF PG fn_cursor_ahead [Value.string t6] (Kd.one (Cmp.leaf Leaf.str)) h40 fun (t43 : ByteArray) (h44 : Mem) =>
                                  (Ld PG ty_int (p9.add 1) (Kd.one (Cmp.leaf (Leaf.int IntKind.i64))) h44 fun (n45 : Int) =>
                                      Value.int IntKind.i64 n45 = Value.int IntKind.i64 n10) ∧
                                    (Ld PG ty_ptr_btree_Forest p7 (Kd.one (Cmp.leaf Leaf.ptr)) h44 fun (q46 : Option Addr) => Value.pointer q46 = Value.pointer q8) ∧
                                      CallF PG fn_btree_Forest_Back [Value.pointer q8, Value.int IntKind.i64 n10, Value.string t43]
                                        (Kd.tup [Cmp.leaf Leaf.str, Cmp.agg [Leaf.int IntKind.u64, Leaf.int IntKind.i64, Leaf.int IntKind.i64], Cmp.leaf Leaf.bool]) h44
                                        fun (t47 : ByteArray) (n48 n49 n50 : Int) (b51 : Bool) (h52 : Mem) =>
                                        St PG ty_api_Ref (Addr.mk k39 0 none) (Value.agg #[Value.int IntKind.u64 n48, Value.int IntKind.i64 n49, Value.int IntKind.i64 n50]) h52
                                          fun (h53 : Mem) =>
                                          CallF PG fn_cursor_Cursor_at [Value.pointer c, Value.string t47, Value.bool b51] (Kd.one (Cmp.leaf Leaf.bool)) h53 fun (b54 : Bool) (h55 : Mem) =>
                                            Q b54 h55)
            (Deref c fun (p56 : Addr) =>
              Ld PG ty_ptr_btree_Forest p56 (Kd.one (Cmp.leaf Leaf.ptr)) h4 fun (q57 : Option Addr) =>
                Deref c fun (p58 : Addr) =>
                  Ld PG ty_int (p58.add 1) (Kd.one (Cmp.leaf (Leaf.int IntKind.i64))) h4 fun (n59 : Int) =>
                    (CallF PG fn_cursor_ahead [Value.string text] (Kd.one (Cmp.leaf Leaf.str)) h4 fun (t60 : ByteArray) (h61 : Mem) =>
                        (Ld PG ty_int (p58.add 1) (Kd.one (Cmp.leaf (Leaf.int IntKind.i64))) h61 fun (n62 : Int) => Value.int IntKind.i64 n62 = Value.int IntKind.i64 n59) ∧
                          (Ld PG ty_ptr_btree_Forest p56 (Kd.one (Cmp.leaf Leaf.ptr)) h61 fun (q63 : Option Addr) => Value.pointer q63 = Value.pointer q57) ∧
                            (CallF PG fn_btree_Forest_Back [Value.pointer q57, Value.int IntKind.i64 n59, Value.string t60]
                                (Kd.tup [Cmp.leaf Leaf.str, Cmp.agg [Leaf.int IntKind.u64, Leaf.int IntKind.i64, Leaf.int IntKind.i64], Cmp.leaf Leaf.bool]) h61
                                fun (t64 : ByteArray) (n65 n66 n67 : Int) (b68 : Bool) (h69 : Mem) =>
                                New (Obj.cells #[Value.int IntKind.u64 0, Value.int IntKind.i64 0, Value.int IntKind.i64 0] ty_api_Ref) h69 fun (k70 : Nat) (h71 : Mem) =>
                                  St PG ty_api_Ref (Addr.mk k70 0 none) (Value.agg #[Value.int IntKind.u64 n65, Value.int IntKind.i64 n66, Value.int IntKind.i64 n67]) h71
                                    fun (h72 : Mem) =>
                                    CallF PG fn_cursor_Cursor_at [Value.pointer c, Value.string t64, Value.bool b68] (Kd.one (Cmp.leaf Leaf.bool)) h72 fun (b73 : Bool) (h74 : Mem) =>
                                      Q b73 h74) ∧
                              New (Obj.cells #[Value.int IntKind.u64 0, Value.int IntKind.i64 0, Value.int IntKind.i64 0] ty_api_Ref) h61 fun (k75 : Nat) (h76 : Mem) =>
                                (Ld PG ty_int (p58.add 1) (Kd.one (Cmp.leaf (Leaf.int IntKind.i64))) h76 fun (n77 : Int) => Value.int IntKind.i64 n77 = Value.int IntKind.i64 n59) ∧
                                  (Ld PG ty_ptr_btree_Forest p56 (Kd.one (Cmp.leaf Leaf.ptr)) h76 fun (q78 : Option Addr) => Value.pointer q78 = Value.pointer q57) ∧
                                    CallF PG fn_btree_Forest_Back [Value.pointer q57, Value.int IntKind.i64 n59, Value.string t60]
                                      (Kd.tup [Cmp.leaf Leaf.str, Cmp.agg [Leaf.int IntKind.u64, Leaf.int IntKind.i64, Leaf.int IntKind.i64], Cmp.leaf Leaf.bool]) h76
                                      fun (t79 : ByteArray) (n80 n81 n82 : Int) (b83 : Bool) (h84 : Mem) =>
                                      St PG ty_api_Ref (Addr.mk k75 0 none) (Value.agg #[Value.int IntKind.u64 n80, Value.int IntKind.i64 n81, Value.int IntKind.i64 n82]) h84
                                        fun (h85 : Mem) =>
                                        CallF PG fn_cursor_Cursor_at [Value.pointer c, Value.string t79, Value.bool b83] (Kd.one (Cmp.leaf Leaf.bool)) h85 fun (b86 : Bool) (h87 : Mem) =>
                                          Q b86 h87) ∧
                      New (Obj.cells #[Value.int IntKind.u64 0, Value.int IntKind.i64 0, Value.int IntKind.i64 0] ty_api_Ref) h4 fun (k88 : Nat) (h89 : Mem) =>
                        (Ld PG ty_int (p58.add 1) (Kd.one (Cmp.leaf (Leaf.int IntKind.i64))) h89 fun (n90 : Int) => Value.int IntKind.i64 n90 = Value.int IntKind.i64 n59) ∧
                          (Ld PG ty_ptr_btree_Forest p56 (Kd.one (Cmp.leaf Leaf.ptr)) h89 fun (q91 : Option Addr) => Value.pointer q91 = Value.pointer q57) ∧
                            CallF PG fn_cursor_ahead [Value.string text] (Kd.one (Cmp.leaf Leaf.str)) h89 fun (t92 : ByteArray) (h93 : Mem) =>
                              (Ld PG ty_int (p58.add 1) (Kd.one (Cmp.leaf (Leaf.int IntKind.i64))) h93 fun (n94 : Int) => Value.int IntKind.i64 n94 = Value.int IntKind.i64 n59) ∧
                                (Ld PG ty_ptr_btree_Forest p56 (Kd.one (Cmp.leaf Leaf.ptr)) h93 fun (q95 : Option Addr) => Value.pointer q95 = Value.pointer q57) ∧
                                  CallF PG fn_btree_Forest_Back [Value.pointer q57, Value.int IntKind.i64 n59, Value.string t92]
                                    (Kd.tup [Cmp.leaf Leaf.str, Cmp.agg [Leaf.int IntKind.u64, Leaf.int IntKind.i64, Leaf.int IntKind.i64], Cmp.leaf Leaf.bool]) h93
                                    fun (t96 : ByteArray) (n97 n98 n99 : Int) (b100 : Bool) (h101 : Mem) =>
                                    St PG ty_api_Ref (Addr.mk k88 0 none) (Value.agg #[Value.int IntKind.u64 n97, Value.int IntKind.i64 n98, Value.int IntKind.i64 n99]) h101
                                      fun (h102 : Mem) =>
                                      CallF PG fn_cursor_Cursor_at [Value.pointer c, Value.string t96, Value.bool b100] (Kd.one (Cmp.leaf Leaf.bool)) h102 fun (b103 : Bool) (h104 : Mem) =>
                                        Q b103 h104)) ∧
      Br (sEq text (ByteArray.mk #[])) (I1 true h)
        (Deref c fun (p105 : Addr) =>
          Ld PG ty_string (p105.add 3) (Kd.one (Cmp.leaf Leaf.str)) h fun (t106 : ByteArray) =>
            Br (!sEq t106 (ByteArray.mk #[])) (Deref c fun (p107 : Addr) => Ld PG ty_string (p107.add 3) (Kd.one (Cmp.leaf Leaf.str)) h fun (t108 : ByteArray) => I1 (sLt t108 text) h)
              (I1 false h))
theorem eq_cursor_Cursor_below (c : Option Addr) (text : ByteArray) (h : Mem) (Q : Bool → Mem → Prop) : wp_cursor_Cursor_below c text h Q = evFn PG fn_cursor_Cursor_below tab_cursor_Cursor_below [.pointer c, .string text] (.one (.leaf .bool)) h Q := by kernel_rfl
theorem ok_cursor_Cursor_below : okF PG fn_cursor_Cursor_below tab_cursor_Cursor_below = true := by kernel_rfl
theorem call_cursor_Cursor_below {c : Option Addr} {text : ByteArray} {h : Mem} {Q : Bool → Mem → Prop} (hw' : wp_cursor_Cursor_below c text h Q) : CallF PG fn_cursor_Cursor_below [.pointer c, .string text] (.one (.leaf .bool)) h Q := callF_of PM ok_cursor_Cursor_below (eq_cursor_Cursor_below c text h Q ▸ hw')

/- 85: (*dunnage/cursor.Cursor).Rest -/
def tab_cursor_Cursor_Rest : Tab := ⟨[], [], []⟩
def wp_cursor_Cursor_Rest (c : Option Addr) (h : Mem) (Q : Value → Mem → Prop) : Prop :=
  New (Obj.cells #[Value.pointer c] ty_ptr_cursor_Cursor) h fun (k1 : Nat) (h2 : Mem) => Q (Value.func (Fn.func fn_cursor_Cursor_Rest_1) #[] #[Value.pointer (some (Addr.mk k1 0 none))]) h2
theorem eq_cursor_Cursor_Rest (c : Option Addr) (h : Mem) (Q : Value → Mem → Prop) : wp_cursor_Cursor_Rest c h Q = evFn PG fn_cursor_Cursor_Rest tab_cursor_Cursor_Rest [.pointer c] (.one (.leaf .raw)) h Q := by kernel_rfl
theorem ok_cursor_Cursor_Rest : okF PG fn_cursor_Cursor_Rest tab_cursor_Cursor_Rest = true := by kernel_rfl
theorem call_cursor_Cursor_Rest {c : Option Addr} {h : Mem} {Q : Value → Mem → Prop} (hw' : wp_cursor_Cursor_Rest c h Q) : CallF PG fn_cursor_Cursor_Rest [.pointer c] (.one (.leaf .raw)) h Q := callF_of PM ok_cursor_Cursor_Rest (eq_cursor_Cursor_Rest c h Q ▸ hw')

/- 119: (*dunnage/cursor.Cursor).at -/
def tab_cursor_Cursor_at : Tab := ⟨[], [], []⟩
def wp_cursor_Cursor_at (c : Option Addr) (key : ByteArray) (is : Bool) (h : Mem) (Q : Bool → Mem → Prop) : Prop :=
  Br is
    (Deref c fun (p1 : Addr) =>
      Ld PG ty_string (p1.add 2) (Kd.one (Cmp.leaf Leaf.str)) h fun (t2 : ByteArray) =>
        Deref c fun (p3 : Addr) =>
          Ld PG ty_string (p3.add 3) (Kd.one (Cmp.leaf Leaf.str)) h fun (t4 : ByteArray) =>
            CallF PG fn_keys_Within [Value.string t2, Value.string t4, Value.string key] (Kd.one (Cmp.leaf Leaf.bool)) h fun (b5 : Bool) (h6 : Mem) =>
              Deref c fun (p7 : Addr) =>
                St PG ty_bool (p7.add 4) (Value.bool b5) h6 fun (h8 : Mem) =>
                  Deref c fun (p9 : Addr) =>
                    St PG ty_string (p9.add 5) (Value.string (ByteArray.mk #[])) h8 fun (h10 : Mem) =>
                      Deref c fun (p11 : Addr) =>
                        Ld PG ty_bool (p11.add 4) (Kd.one (Cmp.leaf Leaf.bool)) h10 fun (b12 : Bool) =>
                          Br b12
                            (Deref c fun (p13 : Addr) =>
                              St PG ty_string (p13.add 5) (Value.string key) h10 fun (h14 : Mem) =>
                                Deref c fun (p15 : Addr) => Ld PG ty_bool (p15.add 4) (Kd.one (Cmp.leaf Leaf.bool)) h14 fun (b16 : Bool) => Q b16 h14)
                            (Deref c fun (p17 : Addr) => Ld PG ty_bool (p17.add 4) (Kd.one (Cmp.leaf Leaf.bool)) h10 fun (b18 : Bool) => Q b18 h10))
    (Deref c fun (p19 : Addr) =>
      St PG ty_bool (p19.add 4) (Value.bool false) h fun (h20 : Mem) =>
        Deref c fun (p21 : Addr) =>
          St PG ty_string (p21.add 5) (Value.string (ByteArray.mk #[])) h20 fun (h22 : Mem) =>
            Deref c fun (p23 : Addr) =>
              Ld PG ty_bool (p23.add 4) (Kd.one (Cmp.leaf Leaf.bool)) h22 fun (b24 : Bool) =>
                Br b24
                  (Deref c fun (p25 : Addr) =>
                    St PG ty_string (p25.add 5) (Value.string key) h22 fun (h26 : Mem) =>
                      Deref c fun (p27 : Addr) => Ld PG ty_bool (p27.add 4) (Kd.one (Cmp.leaf Leaf.bool)) h26 fun (b28 : Bool) => Q b28 h26)
                  (Deref c fun (p29 : Addr) => Ld PG ty_bool (p29.add 4) (Kd.one (Cmp.leaf Leaf.bool)) h22 fun (b30 : Bool) => Q b30 h22))
theorem eq_cursor_Cursor_at (c : Option Addr) (key : ByteArray) (is : Bool) (h : Mem) (Q : Bool → Mem → Prop) : wp_cursor_Cursor_at c key is h Q = evFn PG fn_cursor_Cursor_at tab_cursor_Cursor_at [.pointer c, .string key, .bool is] (.one (.leaf .bool)) h Q := by kernel_rfl
theorem ok_cursor_Cursor_at : okF PG fn_cursor_Cursor_at tab_cursor_Cursor_at = true := by kernel_rfl
theorem call_cursor_Cursor_at {c : Option Addr} {key : ByteArray} {is : Bool} {h : Mem} {Q : Bool → Mem → Prop} (hw' : wp_cursor_Cursor_at c key is h Q) : CallF PG fn_cursor_Cursor_at [.pointer c, .string key, .bool is] (.one (.leaf .bool)) h Q := callF_of PM ok_cursor_Cursor_at (eq_cursor_Cursor_at c key is h Q ▸ hw')

/- 120: dunnage/cursor.ahead -/
def tab_cursor_ahead : Tab := ⟨[], [], [(8, .nil)]⟩
def wp_cursor_ahead (text : ByteArray) (h : Mem) (Q : ByteArray → Mem → Prop) : Prop :=
  Br ((↑text.size : Int) == 0)
    (CallF PG fn_strings_Repeat [Value.string (ByteArray.mk #[255]), Value.int IntKind.i64 65] (Kd.one (Cmp.leaf Leaf.str)) h fun (t1 : ByteArray) (h2 : Mem) => Q t1 h2)
    (Br (decide ((↑text.size : Int) > 64)) (CutS text none (some 64) fun (t3 : ByteArray) => Q t3 h)
      (IdxS text (IntKind.i64.wrap ((↑text.size : Int) - 1)) fun (n4 : Int) =>
        Br (n4 == 0) (CutS text none (some (IntKind.i64.wrap ((↑text.size : Int) - 1))) fun (t5 : ByteArray) => Q t5 h)
          (CutS text none (some (IntKind.i64.wrap ((↑text.size : Int) - 1))) fun (t6 : ByteArray) =>
            IdxS text (IntKind.i64.wrap ((↑text.size : Int) - 1)) fun (n7 : Int) =>
              (New (Obj.cells #[Value.int IntKind.u8 (IntKind.u8.wrap (n7 - 1))] ty_uint8) h fun (k8 : Nat) (h9 : Mem) =>
                  ReadT PG (Conv.bytesToString (Value.slice (some (Addr.mk k8 0 none)) 1 1)) (Kd.one (Cmp.leaf Leaf.str)) h9 fun (t10 : ByteArray) =>
                    Chk ((t6.size + t10.size).ble 9223372036854775807)
                      (CallF PG fn_strings_Repeat [Value.string (ByteArray.mk #[255]), Value.int IntKind.i64 (IntKind.i64.wrap (64 - (↑text.size : Int)))] (Kd.one (Cmp.leaf Leaf.str)) h9
                        fun (t11 : ByteArray) (h12 : Mem) =>
                        (ReadT PG (Conv.bytesToString (Value.slice (some (Addr.mk k8 0 none)) 1 1)) (Kd.one (Cmp.leaf Leaf.str)) h12 fun (t13 : ByteArray) =>
                            Value.string t13 = Value.string t10) ∧
                          Chk (((t6 ++ t10).size + t11.size).ble 9223372036854775807) (Q (t6 ++ t10 ++ t11) h12))) ∧
                CallF PG fn_strings_Repeat [Value.string (ByteArray.mk #[255]), Value.int IntKind.i64 (IntKind.i64.wrap (64 - (↑text.size : Int)))] (Kd.one (Cmp.leaf Leaf.str)) h
                  fun (t14 : ByteArray) (h15 : Mem) =>
                  New (Obj.cells #[Value.int IntKind.u8 (IntKind.u8.wrap (n7 - 1))] ty_uint8) h15 fun (k16 : Nat) (h17 : Mem) =>
                    ReadT PG (Conv.bytesToString (Value.slice (some (Addr.mk k16 0 none)) 1 1)) (Kd.one (Cmp.leaf Leaf.str)) h17 fun (t18 : ByteArray) =>
                      Chk ((t6.size + t18.size).ble 9223372036854775807) (Chk (((t6 ++ t18).size + t14.size).ble 9223372036854775807) (Q (t6 ++ t18 ++ t14) h17)))))
theorem eq_cursor_ahead (text : ByteArray) (h : Mem) (Q : ByteArray → Mem → Prop) : wp_cursor_ahead text h Q = evFn PG fn_cursor_ahead tab_cursor_ahead [.string text] (.one (.leaf .str)) h Q := by kernel_rfl
theorem ok_cursor_ahead : okF PG fn_cursor_ahead tab_cursor_ahead = true := by kernel_rfl
theorem call_cursor_ahead {text : ByteArray} {h : Mem} {Q : ByteArray → Mem → Prop} (hw' : wp_cursor_ahead text h Q) : CallF PG fn_cursor_ahead [.string text] (.one (.leaf .str)) h Q := callF_of PM ok_cursor_ahead (eq_cursor_ahead text h Q ▸ hw')

/- 121: (*dunnage/cursor.Cursor).Rest$1; range 2: [] -/
def tab_cursor_Cursor_Rest_1 : Tab := ⟨[(2, ⟨[(7, .leaf .bool)], []⟩)], [], []⟩
def wp_cursor_Cursor_Rest_1 (yield : Value) (a1 : Option Addr) (h : Mem) (Q : Mem → Prop) : Prop :=
  New
    (Obj.cells
      (match yield with
        | Value.agg h2 => h2.toList
        | v3 => [v3]).toArray
      185)
    h fun (k4 : Nat) (h5 : Mem) =>
    Deref a1 fun (p6 : Addr) =>
      Ld PG ty_ptr_cursor_Cursor p6 (Kd.one (Cmp.leaf Leaf.ptr)) h5 fun (q7 : Option Addr) =>
        CallF PG fn_cursor_Cursor_steps [Value.pointer q7] (Kd.one (Cmp.leaf Leaf.raw)) h5 fun (v8 : Value) (h9 : Mem) =>
          RangeFn PG v8 h9 [Cmp.leaf Leaf.bool]
            (fun (b10 : Bool) (h11 : Mem) (I12 : Mem → (Mem → Prop) → Prop) (I13 I14 I15 : Mem → Prop) =>
              I12 h11 fun (h16 : Mem) =>
                Deref a1 fun (p17 : Addr) =>
                  Ld PG ty_ptr_cursor_Cursor p17 (Kd.one (Cmp.leaf Leaf.ptr)) h16 fun (q18 : Option Addr) =>
                    CallF PG fn_cursor_Cursor_Entry [Value.pointer q18] (Kd.tup [Cmp.agg [Leaf.str, Leaf.int IntKind.u64, Leaf.int IntKind.i64, Leaf.int IntKind.i64], Cmp.leaf Leaf.bool]) h16
                      fun (t19 : ByteArray) (n20 n21 n22 : Int) (b23 : Bool) (h24 : Mem) =>
                      New (Obj.cells #[Value.string (ByteArray.mk #[]), Value.int IntKind.u64 0, Value.int IntKind.i64 0, Value.int IntKind.i64 0] ty_api_Entry) h24
                        fun (k25 : Nat) (h26 : Mem) =>
                        St PG ty_api_Entry (Addr.mk k25 0 none) (Value.agg #[Value.string t19, Value.int IntKind.u64 n20, Value.int IntKind.i64 n21, Value.int IntKind.i64 n22]) h26
                          fun (h27 : Mem) =>
                          Ld PG ty_func_api_Entry_bool185 (Addr.mk k4 0 none) (Kd.one (Cmp.leaf Leaf.raw)) h27 fun (v28 : Value) =>
                            Ld PG ty_api_Entry (Addr.mk k25 0 none) (Kd.one (Cmp.agg [Leaf.str, Leaf.int IntKind.u64, Leaf.int IntKind.i64, Leaf.int IntKind.i64])) h27
                              fun (t29 : ByteArray) (n30 n31 n32 : Int) =>
                              CallV PG v28 [Value.agg #[Value.string t29, Value.int IntKind.u64 n30, Value.int IntKind.i64 n31, Value.int IntKind.i64 n32]]
                                (Kd.one (Cmp.leaf Leaf.bool)) h27 fun (b33 : Bool) (h34 : Mem) => Br (!b33) (I15 h34) (I13 h34))
            (fun (h35 : Mem) => h35[Array.size h9]? = some (Obj.deferred (some [])) ∧ Q (Array.setIfInBounds h35 (Array.size h9) (Obj.deferred none))) (fun (h38 : Mem) => False)
            (fun (h39 : Mem) => h39[Array.size h9]? = some (Obj.deferred (some [])) ∧ Q (Array.setIfInBounds h39 (Array.size h9) (Obj.deferred none))) 1000000
theorem eq_cursor_Cursor_Rest_1 (yield : Value) (a1 : Option Addr) (h : Mem) (Q : Mem → Prop) : wp_cursor_Cursor_Rest_1 yield a1 h Q = evFn PG fn_cursor_Cursor_Rest_1 tab_cursor_Cursor_Rest_1 [yield, .pointer a1] (.tup []) h Q := by kernel_rfl
theorem ok_cursor_Cursor_Rest_1 : okF PG fn_cursor_Cursor_Rest_1 tab_cursor_Cursor_Rest_1 = true := by kernel_rfl
theorem call_cursor_Cursor_Rest_1 {yield : Value} {a1 : Option Addr} {h : Mem} {Q : Mem → Prop} (hw' : wp_cursor_Cursor_Rest_1 yield a1 h Q) : CallF PG fn_cursor_Cursor_Rest_1 [yield, .pointer a1] (.tup []) h Q := callF_of PM ok_cursor_Cursor_Rest_1 (eq_cursor_Cursor_Rest_1 yield a1 h Q ▸ hw')

/- 122: (*dunnage/cursor.Cursor).steps -/
def tab_cursor_Cursor_steps : Tab := ⟨[], [], []⟩
def wp_cursor_Cursor_steps (c : Option Addr) (h : Mem) (Q : Value → Mem → Prop) : Prop :=
  New (Obj.cells #[Value.pointer c] ty_ptr_cursor_Cursor) h fun (k1 : Nat) (h2 : Mem) => Q (Value.func (Fn.func fn_cursor_Cursor_steps_1) #[] #[Value.pointer (some (Addr.mk k1 0 none))]) h2
theorem eq_cursor_Cursor_steps (c : Option Addr) (h : Mem) (Q : Value → Mem → Prop) : wp_cursor_Cursor_steps c h Q = evFn PG fn_cursor_Cursor_steps tab_cursor_Cursor_steps [.pointer c] (.one (.leaf .raw)) h Q := by kernel_rfl
theorem ok_cursor_Cursor_steps : okF PG fn_cursor_Cursor_steps tab_cursor_Cursor_steps = true := by kernel_rfl
theorem call_cursor_Cursor_steps {c : Option Addr} {h : Mem} {Q : Value → Mem → Prop} (hw' : wp_cursor_Cursor_steps c h Q) : CallF PG fn_cursor_Cursor_steps [.pointer c] (.one (.leaf .raw)) h Q := callF_of PM ok_cursor_Cursor_steps (eq_cursor_Cursor_steps c h Q ▸ hw')

/- 160: dunnage/keys.Within -/
def tab_keys_Within : Tab := ⟨[], [], []⟩
def wp_keys_Within (lo : ByteArray) (hi : ByteArray) (key : ByteArray) (h : Mem) (Q : Bool → Mem → Prop) : Prop :=
  Br (sLt lo key || sEq lo key) (Br (sEq hi (ByteArray.mk #[])) (Q true h) (Q (sLt key hi) h)) (Q false h)
theorem eq_keys_Within (lo : ByteArray) (hi : ByteArray) (key : ByteArray) (h : Mem) (Q : Bool → Mem → Prop) : wp_keys_Within lo hi key h Q = evFn PG fn_keys_Within tab_keys_Within [.string lo, .string hi, .string key] (.one (.leaf .bool)) h Q := by kernel_rfl
theorem ok_keys_Within : okF PG fn_keys_Within tab_keys_Within = true := by kernel_rfl
theorem call_keys_Within {lo : ByteArray} {hi : ByteArray} {key : ByteArray} {h : Mem} {Q : Bool → Mem → Prop} (hw' : wp_keys_Within lo hi key h Q) : CallF PG fn_keys_Within [.string lo, .string hi, .string key] (.one (.leaf .bool)) h Q := callF_of PM ok_keys_Within (eq_keys_Within lo hi key h Q ▸ hw')

/- 162: (*dunnage/cursor.Cursor).steps$1; loop 0: [] -/
def tab_cursor_Cursor_steps_1 : Tab := ⟨[(0, ⟨[], [3, 4, 5, 6, 7, 8]⟩)], [], []⟩
def wp_cursor_Cursor_steps_1 (yield : Value) (a1 : Option Addr) (h : Mem) (Q : Mem → Prop) : Prop :=
  ∃ (I1 : Mem → Prop),
    ∃ (I2 : Mem → Nat),
      I1 h ∧
        ∀ (j3 : Fr) (h4 : Mem),
          I1 h4 →
            Deref a1 fun (p5 : Addr) =>
              Ld PG ty_ptr_cursor_Cursor p5 (Kd.one (Cmp.leaf Leaf.ptr)) h4 fun (q6 : Option Addr) =>
                CallF PG fn_cursor_Cursor_Next [Value.pointer q6] (Kd.one (Cmp.leaf Leaf.bool)) h4 fun (b7 : Bool) (h8 : Mem) =>
                  Br b7 (CallV PG yield [Value.bool true] (Kd.one (Cmp.leaf Leaf.bool)) h8 fun (b9 : Bool) (h10 : Mem) => Br b9 (I1 h10 ∧ I2 h10 < I2 h4) (Q h10)) (Q h8)
theorem eq_cursor_Cursor_steps_1 (yield : Value) (a1 : Option Addr) (h : Mem) (Q : Mem → Prop) : wp_cursor_Cursor_steps_1 yield a1 h Q = evFn PG fn_cursor_Cursor_steps_1 tab_cursor_Cursor_steps_1 [yield, .pointer a1] (.tup []) h Q := by kernel_rfl
theorem ok_cursor_Cursor_steps_1 : okF PG fn_cursor_Cursor_steps_1 tab_cursor_Cursor_steps_1 = true := by kernel_rfl
theorem call_cursor_Cursor_steps_1 {yield : Value} {a1 : Option Addr} {h : Mem} {Q : Mem → Prop} (hw' : wp_cursor_Cursor_steps_1 yield a1 h Q) : CallF PG fn_cursor_Cursor_steps_1 [yield, .pointer a1] (.tup []) h Q := callF_of PM ok_cursor_Cursor_steps_1 (eq_cursor_Cursor_steps_1 yield a1 h Q ▸ hw')

end Go.Dn.W
