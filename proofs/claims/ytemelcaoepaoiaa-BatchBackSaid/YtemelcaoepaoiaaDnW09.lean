/- What each function asks for: typed text, and the theorem that the code does it. -/
import Derived.Test.YtemelcaoepaoiaaDnNames
set_option maxRecDepth 100000
set_option linter.unusedVariables false
namespace Go.Dn.W
open Go Go.Dn Go.Proofs

/- 3: dunnage/dunnagelaw09.KeysOrder; join 4: [n]; join 6: [n]; join 8: [n] -/
def tab_dunnagelaw09_KeysOrder : Tab := ⟨[], [(4, ⟨[(7, .leaf (.int .i64))], [8, 9, 10, 11, 12]⟩), (6, ⟨[(7, .leaf (.int .i64))], [13, 14, 15, 16, 17]⟩), (8, ⟨[(7, .leaf (.int .i64))], [18, 19, 20, 21, 22]⟩)], []⟩
def wp_dunnagelaw09_KeysOrder (a : ByteArray) (b : ByteArray) (c : ByteArray) (h : Mem) (Q : Bool → Mem → Prop) : Prop :=
  ∃ (I1 : Int → Mem → Prop),
    (∀ (j2 : Fr) (n3 : Int) (h4 : Mem),
        I1 n3 h4 →
          ∃ (I5 : Int → Mem → Prop),
            (∀ (j6 : Fr) (n7 : Int) (h8 : Mem),
                I5 n7 h8 →
                  ∃ (I9 : Int → Mem → Prop),
                    (∀ (j10 : Fr) (n11 : Int) (h12 : Mem),
                        I9 n11 h12 →
                          CallF PG fn_dunnagelaw09_awake [] (Kd.one (Cmp.leaf Leaf.bool)) h12 fun (b13 : Bool) (h14 : Mem) =>
                            Br b13
                              (Br (n11 == 1)
                                (CallF PG fn_keys_Less [Value.string a, Value.string a] (Kd.one (Cmp.leaf Leaf.bool)) h14 fun (b15 : Bool) (h16 : Mem) =>
                                  Br (!b15)
                                    (CallF PG fn_keys_Less [Value.string a, Value.string b] (Kd.one (Cmp.leaf Leaf.bool)) h16 fun (b17 : Bool) (h18 : Mem) =>
                                      Br (!b17) (Q true h18)
                                        (CallF PG fn_keys_Less [Value.string b, Value.string c] (Kd.one (Cmp.leaf Leaf.bool)) h18 fun (b19 : Bool) (h20 : Mem) =>
                                          Br (!b19) (Q true h20)
                                            (CallF PG fn_keys_Less [Value.string a, Value.string c] (Kd.one (Cmp.leaf Leaf.bool)) h20 fun (b21 : Bool) (h22 : Mem) => Q b21 h22)))
                                    (Q false h16))
                                (Q false h14))
                              (Q false h14)) ∧
                      Br (sEq a b) (I9 (IntKind.i64.wrap (n7 + 1)) h8) (I9 n7 h8)) ∧
              CallF PG fn_keys_Less [Value.string b, Value.string a] (Kd.one (Cmp.leaf Leaf.bool)) h4 fun (b23 : Bool) (h24 : Mem) =>
                Br b23 (I5 (IntKind.i64.wrap (n3 + 1)) h24) (I5 n3 h24)) ∧
      CallF PG fn_keys_Less [Value.string a, Value.string b] (Kd.one (Cmp.leaf Leaf.bool)) h fun (b25 : Bool) (h26 : Mem) => Br b25 (I1 (Int.ofNat 1) h26) (I1 0 h26)
theorem eq_dunnagelaw09_KeysOrder (a : ByteArray) (b : ByteArray) (c : ByteArray) (h : Mem) (Q : Bool → Mem → Prop) : wp_dunnagelaw09_KeysOrder a b c h Q = evFn PG fn_dunnagelaw09_KeysOrder tab_dunnagelaw09_KeysOrder [.string a, .string b, .string c] (.one (.leaf .bool)) h Q := by kernel_rfl
theorem ok_dunnagelaw09_KeysOrder : okF PG fn_dunnagelaw09_KeysOrder tab_dunnagelaw09_KeysOrder = true := by kernel_rfl
theorem call_dunnagelaw09_KeysOrder {a : ByteArray} {b : ByteArray} {c : ByteArray} {h : Mem} {Q : Bool → Mem → Prop} (w : wp_dunnagelaw09_KeysOrder a b c h Q) : CallF PG fn_dunnagelaw09_KeysOrder [.string a, .string b, .string c] (.one (.leaf .bool)) h Q := callF_of PM ok_dunnagelaw09_KeysOrder (eq_dunnagelaw09_KeysOrder a b c h Q ▸ w)

/- 4: dunnage/dunnagelaw09.KeysNext -/
def tab_dunnagelaw09_KeysNext : Tab := ⟨[], [], []⟩
def wp_dunnagelaw09_KeysNext (a : ByteArray) (b : ByteArray) (h : Mem) (Q : Bool → Mem → Prop) : Prop :=
  CallF PG fn_keys_Next [Value.string a] (Kd.one (Cmp.leaf Leaf.str)) h fun (t1 : ByteArray) (h2 : Mem) =>
    CallF PG fn_dunnagelaw09_awake [] (Kd.one (Cmp.leaf Leaf.bool)) h2 fun (b3 : Bool) (h4 : Mem) =>
      Br b3
        (CallF PG fn_keys_Less [Value.string a, Value.string t1] (Kd.one (Cmp.leaf Leaf.bool)) h4 fun (b5 : Bool) (h6 : Mem) =>
          Br b5
            (CallF PG fn_keys_Less [Value.string a, Value.string b] (Kd.one (Cmp.leaf Leaf.bool)) h6 fun (b7 : Bool) (h8 : Mem) =>
              CallF PG fn_keys_Less [Value.string b, Value.string t1] (Kd.one (Cmp.leaf Leaf.bool)) h8 fun (b9 : Bool) (h10 : Mem) => Q (b7 == !b9) h10)
            (Q false h6))
        (Q false h4)
theorem eq_dunnagelaw09_KeysNext (a : ByteArray) (b : ByteArray) (h : Mem) (Q : Bool → Mem → Prop) : wp_dunnagelaw09_KeysNext a b h Q = evFn PG fn_dunnagelaw09_KeysNext tab_dunnagelaw09_KeysNext [.string a, .string b] (.one (.leaf .bool)) h Q := by kernel_rfl
theorem ok_dunnagelaw09_KeysNext : okF PG fn_dunnagelaw09_KeysNext tab_dunnagelaw09_KeysNext = true := by kernel_rfl
theorem call_dunnagelaw09_KeysNext {a : ByteArray} {b : ByteArray} {h : Mem} {Q : Bool → Mem → Prop} (w : wp_dunnagelaw09_KeysNext a b h Q) : CallF PG fn_dunnagelaw09_KeysNext [.string a, .string b] (.one (.leaf .bool)) h Q := callF_of PM ok_dunnagelaw09_KeysNext (eq_dunnagelaw09_KeysNext a b h Q ▸ w)

/- 5: dunnage/dunnagelaw09.KeysParts -/
def tab_dunnagelaw09_KeysParts : Tab := ⟨[], [], [(1, (chainT [(0, false), (1, false), (2, false)] (.join ⟨[(19, .leaf .bool)], [14, 15, 16, 17, 18]⟩ (chainT [(3, false), (4, false), (5, false), (6, false), (7, false), (8, false)] .nil) (chainT [(9, false)] (.join ⟨[(23, .leaf .bool)], [21, 22]⟩ (chainT [(10, false), (11, false), (12, false)] .nil) .nil)))))]⟩
def wp_dunnagelaw09_KeysParts (lo : ByteArray) (hi : ByteArray) (at' : ByteArray) (key : ByteArray) (h : Mem) (Q : Bool → Mem → Prop) : Prop :=
  CallF PG fn_dunnagelaw09_awake [] (Kd.one (Cmp.leaf Leaf.bool)) h fun (b1 : Bool) (h2 : Mem) =>
    ∃ (I3 : Bool → Mem → Prop),
      (∀ (j4 : Fr) (b5 : Bool) (h6 : Mem),
          I3 b5 h6 →
            ∃ (I7 : Bool → Mem → Prop),
              (∀ (j8 : Fr) (b9 : Bool) (h10 : Mem),
                  I7 b9 h10 →
                    Br b9 (CallF PG fn_dunnagelaw09_awake [] (Kd.one (Cmp.leaf Leaf.bool)) h10 fun (b11 : Bool) (h12 : Mem) => Q b11 h12)
                      (CallF PG fn_keys_Within [Value.string lo, Value.string at', Value.string key] (Kd.one (Cmp.leaf Leaf.bool)) h10 fun (b13 : Bool) (h14 : Mem) =>
                        CallF PG fn_keys_Within [Value.string at', Value.string hi, Value.string key] (Kd.one (Cmp.leaf Leaf.bool)) h14 fun (b15 : Bool) (h16 : Mem) =>
                          Br b13
                            (Br (!b15)
                              (Br b13
                                (CallF PG fn_keys_Within [Value.string lo, Value.string hi, Value.string key] (Kd.one (Cmp.leaf Leaf.bool)) h16 fun (b17 : Bool) (h18 : Mem) =>
                                  Q (true == b17) h18)
                                (CallF PG fn_keys_Within [Value.string lo, Value.string hi, Value.string key] (Kd.one (Cmp.leaf Leaf.bool)) h16 fun (b19 : Bool) (h20 : Mem) =>
                                  Q (b15 == b19) h20))
                              (Q false h16))
                            (Br b13
                              (CallF PG fn_keys_Within [Value.string lo, Value.string hi, Value.string key] (Kd.one (Cmp.leaf Leaf.bool)) h16 fun (b21 : Bool) (h22 : Mem) =>
                                Q (true == b21) h22)
                              (CallF PG fn_keys_Within [Value.string lo, Value.string hi, Value.string key] (Kd.one (Cmp.leaf Leaf.bool)) h16 fun (b23 : Bool) (h24 : Mem) =>
                                Q (b15 == b23) h24)))) ∧
                Br b5 (I7 true h6) (I7 (sEq at' (ByteArray.mk #[])) h6)) ∧
        Br (!b1) (I3 true h2) (CallF PG fn_keys_Within [Value.string lo, Value.string hi, Value.string at'] (Kd.one (Cmp.leaf Leaf.bool)) h2 fun (b25 : Bool) (h26 : Mem) => I3 (!b25) h26)
theorem eq_dunnagelaw09_KeysParts (lo : ByteArray) (hi : ByteArray) (at' : ByteArray) (key : ByteArray) (h : Mem) (Q : Bool → Mem → Prop) : wp_dunnagelaw09_KeysParts lo hi at' key h Q = evFn PG fn_dunnagelaw09_KeysParts tab_dunnagelaw09_KeysParts [.string lo, .string hi, .string at', .string key] (.one (.leaf .bool)) h Q := by kernel_rfl
theorem ok_dunnagelaw09_KeysParts : okF PG fn_dunnagelaw09_KeysParts tab_dunnagelaw09_KeysParts = true := by kernel_rfl
theorem call_dunnagelaw09_KeysParts {lo : ByteArray} {hi : ByteArray} {at' : ByteArray} {key : ByteArray} {h : Mem} {Q : Bool → Mem → Prop} (w : wp_dunnagelaw09_KeysParts lo hi at' key h Q) : CallF PG fn_dunnagelaw09_KeysParts [.string lo, .string hi, .string at', .string key] (.one (.leaf .bool)) h Q := callF_of PM ok_dunnagelaw09_KeysParts (eq_dunnagelaw09_KeysParts lo hi at' key h Q ▸ w)

/- 6: dunnage/dunnagelaw09.KeysMeet -/
def tab_dunnagelaw09_KeysMeet : Tab := ⟨[], [], [(2, (chainT [(0, false), (1, false), (2, false), (3, false), (4, false)] (.join ⟨[(33, .leaf .bool)], [29, 30, 31, 32]⟩ (chainT [(5, false), (6, false), (7, false), (8, false), (9, false)] .nil) (chainT [(10, false)] .nil))))]⟩
def wp_dunnagelaw09_KeysMeet (a : ByteArray) (b : ByteArray) (c : ByteArray) (d : ByteArray) (key : ByteArray) (h : Mem) (Q : Bool → Mem → Prop) : Prop :=
  CallF PG fn_keys_Meet [Value.string a, Value.string b, Value.string c, Value.string d] (Kd.tup [Cmp.leaf Leaf.str, Cmp.leaf Leaf.str, Cmp.leaf Leaf.bool]) h
    fun (t1 t2 : ByteArray) (b3 : Bool) (h4 : Mem) =>
    CallF PG fn_keys_Within [Value.string a, Value.string b, Value.string key] (Kd.one (Cmp.leaf Leaf.bool)) h4 fun (b5 : Bool) (h6 : Mem) =>
      ∃ (I7 : Bool → Mem → Prop),
        (∀ (j8 : Fr) (b9 : Bool) (h10 : Mem),
            I7 b9 h10 →
              CallF PG fn_dunnagelaw09_awake [] (Kd.one (Cmp.leaf Leaf.bool)) h10 fun (b11 : Bool) (h12 : Mem) =>
                Br (!b11) (Q false h12)
                  (Br (!b3)
                    (Br b9 (Q false h12)
                      (Br (!sEq t1 (ByteArray.mk #[])) (Q false h12)
                        (Br (!sEq t2 (ByteArray.mk #[])) (Q false h12)
                          (Br (!b3) (Q true h12)
                            (CallF PG fn_keys_Within [Value.string t1, Value.string t2, Value.string key] (Kd.one (Cmp.leaf Leaf.bool)) h12 fun (b13 : Bool) (h14 : Mem) =>
                              Br (b9 == b13)
                                (CallF PG fn_keys_Empty [Value.string t1, Value.string t2] (Kd.one (Cmp.leaf Leaf.bool)) h14 fun (b15 : Bool) (h16 : Mem) =>
                                  Br (!b15)
                                    (CallF PG fn_keys_Within [Value.string t1, Value.string t2, Value.string t1] (Kd.one (Cmp.leaf Leaf.bool)) h16 fun (b17 : Bool) (h18 : Mem) =>
                                      Q b17 h18)
                                    (Q false h16))
                                (Q false h14))))))
                    (Br (!b3) (Q true h12)
                      (CallF PG fn_keys_Within [Value.string t1, Value.string t2, Value.string key] (Kd.one (Cmp.leaf Leaf.bool)) h12 fun (b19 : Bool) (h20 : Mem) =>
                        Br (b9 == b19)
                          (CallF PG fn_keys_Empty [Value.string t1, Value.string t2] (Kd.one (Cmp.leaf Leaf.bool)) h20 fun (b21 : Bool) (h22 : Mem) =>
                            Br (!b21)
                              (CallF PG fn_keys_Within [Value.string t1, Value.string t2, Value.string t1] (Kd.one (Cmp.leaf Leaf.bool)) h22 fun (b23 : Bool) (h24 : Mem) => Q b23 h24)
                              (Q false h22))
                          (Q false h20))))) ∧
          Br b5 (CallF PG fn_keys_Within [Value.string c, Value.string d, Value.string key] (Kd.one (Cmp.leaf Leaf.bool)) h6 fun (b25 : Bool) (h26 : Mem) => I7 b25 h26) (I7 false h6)
theorem eq_dunnagelaw09_KeysMeet (a : ByteArray) (b : ByteArray) (c : ByteArray) (d : ByteArray) (key : ByteArray) (h : Mem) (Q : Bool → Mem → Prop) : wp_dunnagelaw09_KeysMeet a b c d key h Q = evFn PG fn_dunnagelaw09_KeysMeet tab_dunnagelaw09_KeysMeet [.string a, .string b, .string c, .string d, .string key] (.one (.leaf .bool)) h Q := by kernel_rfl
theorem ok_dunnagelaw09_KeysMeet : okF PG fn_dunnagelaw09_KeysMeet tab_dunnagelaw09_KeysMeet = true := by kernel_rfl
theorem call_dunnagelaw09_KeysMeet {a : ByteArray} {b : ByteArray} {c : ByteArray} {d : ByteArray} {key : ByteArray} {h : Mem} {Q : Bool → Mem → Prop} (w : wp_dunnagelaw09_KeysMeet a b c d key h Q) : CallF PG fn_dunnagelaw09_KeysMeet [.string a, .string b, .string c, .string d, .string key] (.one (.leaf .bool)) h Q := callF_of PM ok_dunnagelaw09_KeysMeet (eq_dunnagelaw09_KeysMeet a b c d key h Q ▸ w)

/- 7: dunnage/dunnagelaw09.KeysPrefix -/
def tab_dunnagelaw09_KeysPrefix : Tab := ⟨[], [], []⟩
def wp_dunnagelaw09_KeysPrefix (p : ByteArray) (key : ByteArray) (h : Mem) (Q : Bool → Mem → Prop) : Prop :=
  CallF PG fn_keys_Prefix [Value.string p] (Kd.tup [Cmp.leaf Leaf.str, Cmp.leaf Leaf.str]) h fun (t1 t2 : ByteArray) (h3 : Mem) =>
    Br (decide ((↑key.size : Int) ≥ (↑p.size : Int)))
      (CutS key none (some (↑p.size : Int)) fun (t4 : ByteArray) =>
        CallF PG fn_dunnagelaw09_awake [] (Kd.one (Cmp.leaf Leaf.bool)) h3 fun (b5 : Bool) (h6 : Mem) =>
          Br b5
            (CallF PG fn_keys_Within [Value.string t1, Value.string t2, Value.string key] (Kd.one (Cmp.leaf Leaf.bool)) h6 fun (b7 : Bool) (h8 : Mem) =>
              Br (b7 == sEq t4 p)
                (Chk ((p.size + key.size).ble 9223372036854775807)
                  (CallF PG fn_keys_Within [Value.string t1, Value.string t2, Value.string (p ++ key)] (Kd.one (Cmp.leaf Leaf.bool)) h8 fun (b9 : Bool) (h10 : Mem) =>
                    Br b9 (CallF PG fn_keys_Empty [Value.string t1, Value.string t2] (Kd.one (Cmp.leaf Leaf.bool)) h10 fun (b11 : Bool) (h12 : Mem) => Q (!b11) h12) (Q false h10)))
                (Q false h8))
            (Q false h6))
      (CallF PG fn_dunnagelaw09_awake [] (Kd.one (Cmp.leaf Leaf.bool)) h3 fun (b13 : Bool) (h14 : Mem) =>
        Br b13
          (CallF PG fn_keys_Within [Value.string t1, Value.string t2, Value.string key] (Kd.one (Cmp.leaf Leaf.bool)) h14 fun (b15 : Bool) (h16 : Mem) =>
            Br (b15 == false)
              (Chk ((p.size + key.size).ble 9223372036854775807)
                (CallF PG fn_keys_Within [Value.string t1, Value.string t2, Value.string (p ++ key)] (Kd.one (Cmp.leaf Leaf.bool)) h16 fun (b17 : Bool) (h18 : Mem) =>
                  Br b17 (CallF PG fn_keys_Empty [Value.string t1, Value.string t2] (Kd.one (Cmp.leaf Leaf.bool)) h18 fun (b19 : Bool) (h20 : Mem) => Q (!b19) h20) (Q false h18)))
              (Q false h16))
          (Q false h14))
theorem eq_dunnagelaw09_KeysPrefix (p : ByteArray) (key : ByteArray) (h : Mem) (Q : Bool → Mem → Prop) : wp_dunnagelaw09_KeysPrefix p key h Q = evFn PG fn_dunnagelaw09_KeysPrefix tab_dunnagelaw09_KeysPrefix [.string p, .string key] (.one (.leaf .bool)) h Q := by kernel_rfl
theorem ok_dunnagelaw09_KeysPrefix : okF PG fn_dunnagelaw09_KeysPrefix tab_dunnagelaw09_KeysPrefix = true := by kernel_rfl
theorem call_dunnagelaw09_KeysPrefix {p : ByteArray} {key : ByteArray} {h : Mem} {Q : Bool → Mem → Prop} (w : wp_dunnagelaw09_KeysPrefix p key h Q) : CallF PG fn_dunnagelaw09_KeysPrefix [.string p, .string key] (.one (.leaf .bool)) h Q := callF_of PM ok_dunnagelaw09_KeysPrefix (eq_dunnagelaw09_KeysPrefix p key h Q ▸ w)

/- 8: dunnage/dunnagelaw09.KeysTell -/
def tab_dunnagelaw09_KeysTell : Tab := ⟨[], [], [(5, (chainT [(0, false), (1, false)] (.join ⟨[(54, .leaf .bool)], [49, 50, 51, 52, 53]⟩ (chainT [(2, false), (3, false), (4, false), (5, false), (6, false), (7, false)] .nil) (chainT [(8, false)] (.join ⟨[(63, .leaf .bool)], [56, 57, 58, 59, 60, 61, 62]⟩ (chainT [(9, false), (10, false), (11, false), (12, false), (13, false), (14, false), (15, false), (16, false)] .nil) (chainT [(17, false)] (.join ⟨[(74, .leaf .bool)], [65, 66, 67, 68, 69, 70, 71, 72, 73]⟩ (chainT [(18, false), (19, false), (20, false), (21, false), (22, false), (23, false), (24, false), (25, false), (26, false), (27, false)] .nil) (chainT [(28, false)] (.join ⟨[(83, .leaf .bool)], [76, 77, 78, 79, 80, 81, 82]⟩ (chainT [(29, false), (30, false), (31, false), (32, false), (33, false), (34, false), (35, false), (36, false)] .nil) (chainT [(37, false), (38, false), (39, false), (40, false), (41, false), (42, false), (43, false), (44, false), (45, false), (46, false), (47, false), (48, false), (49, false), (50, false), (51, false), (52, false), (53, false), (54, false), (55, false), (56, false), (57, false), (58, false), (59, false), (60, false), (61, false), (62, false), (63, false), (64, false), (65, false), (66, false), (67, false), (68, false), (69, false)] .nil))))))))))]⟩
def wp_dunnagelaw09_KeysTell (a : ByteArray) (b : ByteArray) (c : ByteArray) (d : ByteArray) (h : Mem) (Q : Bool → Mem → Prop) : Prop :=
  CallF PG fn_keys_Meet [Value.string a, Value.string b, Value.string c, Value.string d] (Kd.tup [Cmp.leaf Leaf.str, Cmp.leaf Leaf.str, Cmp.leaf Leaf.bool]) h
    fun (t1 t2 : ByteArray) (b3 : Bool) (h4 : Mem) =>
    CallF PG fn_dunnageref09_Meet [Value.string a, Value.string b, Value.string c, Value.string d] (Kd.tup [Cmp.leaf Leaf.str, Cmp.leaf Leaf.str, Cmp.leaf Leaf.bool]) h4
      fun (t5 t6 : ByteArray) (b7 : Bool) (h8 : Mem) =>
      CallF PG fn_keys_Prefix [Value.string a] (Kd.tup [Cmp.leaf Leaf.str, Cmp.leaf Leaf.str]) h8 fun (t9 t10 : ByteArray) (h11 : Mem) =>
        CallF PG fn_dunnageref09_Prefix [Value.string a] (Kd.tup [Cmp.leaf Leaf.str, Cmp.leaf Leaf.str]) h11 fun (t12 t13 : ByteArray) (h14 : Mem) =>
          CallF PG fn_dunnagelaw09_awake [] (Kd.one (Cmp.leaf Leaf.bool)) h14 fun (b15 : Bool) (h16 : Mem) =>
            ∃ (I17 : Bool → Mem → Prop),
              (∀ (j18 : Fr) (b19 : Bool) (h20 : Mem),
                  I17 b19 h20 →
                    ∃ (I21 : Bool → Mem → Prop),
                      (∀ (j22 : Fr) (b23 : Bool) (h24 : Mem),
                          I21 b23 h24 →
                            ∃ (I25 : Bool → Mem → Prop),
                              (∀ (j26 : Fr) (b27 : Bool) (h28 : Mem),
                                  I25 b27 h28 →
                                    ∃ (I29 : Bool → Mem → Prop),
                                      (∀ (j30 : Fr) (b31 : Bool) (h32 : Mem),
                                          I29 b31 h32 →
                                            Br b31
                                              (CallF PG fn_keys_Next [Value.string a] (Kd.one (Cmp.leaf Leaf.str)) h32 fun (t33 : ByteArray) (h34 : Mem) =>
                                                CallF PG fn_dunnageref09_Next [Value.string a] (Kd.one (Cmp.leaf Leaf.str)) h34 fun (t35 : ByteArray) (h36 : Mem) =>
                                                  Br (sEq t33 t35)
                                                    (Br (sEq t1 t5) (Br (sEq t2 t6) (Br (b3 == b7) (Br (sEq t9 t12) (Q (sEq t10 t13) h36) (Q false h36)) (Q false h36)) (Q false h36))
                                                      (Q false h36))
                                                    (Q false h36))
                                              (Q false h32)) ∧
                                        Br b27
                                          (CallF PG fn_keys_Empty [Value.string a, Value.string b] (Kd.one (Cmp.leaf Leaf.bool)) h28 fun (b37 : Bool) (h38 : Mem) =>
                                            CallF PG fn_dunnageref09_Empty [Value.string a, Value.string b] (Kd.one (Cmp.leaf Leaf.bool)) h38 fun (b39 : Bool) (h40 : Mem) => I29 (b37 == b39) h40)
                                          (I29 false h28)) ∧
                                Br b23
                                  (CallF PG fn_keys_Within [Value.string a, Value.string b, Value.string c] (Kd.one (Cmp.leaf Leaf.bool)) h24 fun (b41 : Bool) (h42 : Mem) =>
                                    CallF PG fn_dunnageref09_Within [Value.string a, Value.string b, Value.string c] (Kd.one (Cmp.leaf Leaf.bool)) h42 fun (b43 : Bool) (h44 : Mem) =>
                                      I25 (b41 == b43) h44)
                                  (I25 false h24)) ∧
                        Br b19
                          (CallF PG fn_keys_Less [Value.string a, Value.string b] (Kd.one (Cmp.leaf Leaf.bool)) h20 fun (b45 : Bool) (h46 : Mem) =>
                            CallF PG fn_dunnageref09_Less [Value.string a, Value.string b] (Kd.one (Cmp.leaf Leaf.bool)) h46 fun (b47 : Bool) (h48 : Mem) => I21 (b45 == b47) h48)
                          (I21 false h20)) ∧
                Br b15
                  (CallF PG fn_keys_May [Value.string a] (Kd.one (Cmp.leaf Leaf.bool)) h16 fun (b49 : Bool) (h50 : Mem) =>
                    CallF PG fn_dunnageref09_May [Value.string a] (Kd.one (Cmp.leaf Leaf.bool)) h50 fun (b51 : Bool) (h52 : Mem) => I17 (b49 == b51) h52)
                  (I17 false h16)
theorem eq_dunnagelaw09_KeysTell (a : ByteArray) (b : ByteArray) (c : ByteArray) (d : ByteArray) (h : Mem) (Q : Bool → Mem → Prop) : wp_dunnagelaw09_KeysTell a b c d h Q = evFn PG fn_dunnagelaw09_KeysTell tab_dunnagelaw09_KeysTell [.string a, .string b, .string c, .string d] (.one (.leaf .bool)) h Q := by kernel_rfl
theorem ok_dunnagelaw09_KeysTell : okF PG fn_dunnagelaw09_KeysTell tab_dunnagelaw09_KeysTell = true := by kernel_rfl
theorem call_dunnagelaw09_KeysTell {a : ByteArray} {b : ByteArray} {c : ByteArray} {d : ByteArray} {h : Mem} {Q : Bool → Mem → Prop} (w : wp_dunnagelaw09_KeysTell a b c d h Q) : CallF PG fn_dunnagelaw09_KeysTell [.string a, .string b, .string c, .string d] (.one (.leaf .bool)) h Q := callF_of PM ok_dunnagelaw09_KeysTell (eq_dunnagelaw09_KeysTell a b c d h Q ▸ w)

/- 25: dunnage/keys.Less -/
def tab_keys_Less : Tab := ⟨[], [], []⟩
def wp_keys_Less (a : ByteArray) (b : ByteArray) (h : Mem) (Q : Bool → Mem → Prop) : Prop :=
  Q (sLt a b) h
theorem eq_keys_Less (a : ByteArray) (b : ByteArray) (h : Mem) (Q : Bool → Mem → Prop) : wp_keys_Less a b h Q = evFn PG fn_keys_Less tab_keys_Less [.string a, .string b] (.one (.leaf .bool)) h Q := by kernel_rfl
theorem ok_keys_Less : okF PG fn_keys_Less tab_keys_Less = true := by kernel_rfl
theorem call_keys_Less {a : ByteArray} {b : ByteArray} {h : Mem} {Q : Bool → Mem → Prop} (w : wp_keys_Less a b h Q) : CallF PG fn_keys_Less [.string a, .string b] (.one (.leaf .bool)) h Q := callF_of PM ok_keys_Less (eq_keys_Less a b h Q ▸ w)

/- 26: dunnage/dunnagelaw09.awake -/
def tab_dunnagelaw09_awake : Tab := ⟨[], [], []⟩
def wp_dunnagelaw09_awake  (h : Mem) (Q : Bool → Mem → Prop) : Prop :=
  CallF PG fn_keys_May [Value.string (ByteArray.mk #[97])] (Kd.one (Cmp.leaf Leaf.bool)) h fun (b1 : Bool) (h2 : Mem) =>
    Br b1
      (CallF PG fn_keys_Less [Value.string (ByteArray.mk #[97]), Value.string (ByteArray.mk #[98])] (Kd.one (Cmp.leaf Leaf.bool)) h2 fun (b3 : Bool) (h4 : Mem) =>
        Br b3
          (CallF PG fn_keys_Within [Value.string (ByteArray.mk #[97]), Value.string (ByteArray.mk #[99]), Value.string (ByteArray.mk #[98])] (Kd.one (Cmp.leaf Leaf.bool)) h4
            fun (b5 : Bool) (h6 : Mem) =>
            Br b5 (CallF PG fn_keys_Next [Value.string (ByteArray.mk #[97])] (Kd.one (Cmp.leaf Leaf.str)) h6 fun (t7 : ByteArray) (h8 : Mem) => Q (sEq t7 (ByteArray.mk #[97, 0])) h8)
              (Q false h6))
          (Q false h4))
      (Q false h2)
theorem eq_dunnagelaw09_awake  (h : Mem) (Q : Bool → Mem → Prop) : wp_dunnagelaw09_awake  h Q = evFn PG fn_dunnagelaw09_awake tab_dunnagelaw09_awake [] (.one (.leaf .bool)) h Q := by kernel_rfl
theorem ok_dunnagelaw09_awake : okF PG fn_dunnagelaw09_awake tab_dunnagelaw09_awake = true := by kernel_rfl
theorem call_dunnagelaw09_awake {h : Mem} {Q : Bool → Mem → Prop} (w : wp_dunnagelaw09_awake  h Q) : CallF PG fn_dunnagelaw09_awake [] (.one (.leaf .bool)) h Q := callF_of PM ok_dunnagelaw09_awake (eq_dunnagelaw09_awake  h Q ▸ w)

/- 27: dunnage/keys.Next -/
def tab_keys_Next : Tab := ⟨[], [], []⟩
def wp_keys_Next (key : ByteArray) (h : Mem) (Q : ByteArray → Mem → Prop) : Prop :=
  Chk ((key.size + 1).ble 9223372036854775807) (Q (key ++ ByteArray.mk #[0]) h)
theorem eq_keys_Next (key : ByteArray) (h : Mem) (Q : ByteArray → Mem → Prop) : wp_keys_Next key h Q = evFn PG fn_keys_Next tab_keys_Next [.string key] (.one (.leaf .str)) h Q := by kernel_rfl
theorem ok_keys_Next : okF PG fn_keys_Next tab_keys_Next = true := by kernel_rfl
theorem call_keys_Next {key : ByteArray} {h : Mem} {Q : ByteArray → Mem → Prop} (w : wp_keys_Next key h Q) : CallF PG fn_keys_Next [.string key] (.one (.leaf .str)) h Q := callF_of PM ok_keys_Next (eq_keys_Next key h Q ▸ w)

/- 28: dunnage/keys.Within -/
def tab_keys_Within : Tab := ⟨[], [], []⟩
def wp_keys_Within (lo : ByteArray) (hi : ByteArray) (key : ByteArray) (h : Mem) (Q : Bool → Mem → Prop) : Prop :=
  Br (sLt lo key || sEq lo key) (Br (sEq hi (ByteArray.mk #[])) (Q true h) (Q (sLt key hi) h)) (Q false h)
theorem eq_keys_Within (lo : ByteArray) (hi : ByteArray) (key : ByteArray) (h : Mem) (Q : Bool → Mem → Prop) : wp_keys_Within lo hi key h Q = evFn PG fn_keys_Within tab_keys_Within [.string lo, .string hi, .string key] (.one (.leaf .bool)) h Q := by kernel_rfl
theorem ok_keys_Within : okF PG fn_keys_Within tab_keys_Within = true := by kernel_rfl
theorem call_keys_Within {lo : ByteArray} {hi : ByteArray} {key : ByteArray} {h : Mem} {Q : Bool → Mem → Prop} (w : wp_keys_Within lo hi key h Q) : CallF PG fn_keys_Within [.string lo, .string hi, .string key] (.one (.leaf .bool)) h Q := callF_of PM ok_keys_Within (eq_keys_Within lo hi key h Q ▸ w)

/- 29: dunnage/keys.Meet -/
def tab_keys_Meet : Tab := ⟨[], [], []⟩
def wp_keys_Meet (alo : ByteArray) (ahi : ByteArray) (blo : ByteArray) (bhi : ByteArray) (h : Mem) (Q : ByteArray → ByteArray → Bool → Mem → Prop) : Prop :=
  Br (sEq ahi (ByteArray.mk #[]))
    (CallF PG fn_keys_Empty [Value.string (bif !sLt alo blo then alo else blo), Value.string (bif !sLt ahi bhi then ahi else bhi)] (Kd.one (Cmp.leaf Leaf.bool)) h
      fun (b1 : Bool) (h2 : Mem) => Br b1 (Q (ByteArray.mk #[]) (ByteArray.mk #[]) false h2) (Q (bif !sLt alo blo then alo else blo) (bif !sLt ahi bhi then ahi else bhi) true h2))
    (Br (sEq bhi (ByteArray.mk #[]))
      (CallF PG fn_keys_Empty [Value.string (bif !sLt alo blo then alo else blo), Value.string (bif !sLt ahi bhi then ahi else bhi)] (Kd.one (Cmp.leaf Leaf.bool)) h
        fun (b3 : Bool) (h4 : Mem) => Br b3 (Q (ByteArray.mk #[]) (ByteArray.mk #[]) false h4) (Q (bif !sLt alo blo then alo else blo) (bif !sLt ahi bhi then ahi else bhi) true h4))
      (CallF PG fn_keys_Empty [Value.string (bif !sLt alo blo then alo else blo), Value.string (bif sLt ahi bhi || sEq ahi bhi then ahi else bhi)] (Kd.one (Cmp.leaf Leaf.bool)) h
        fun (b5 : Bool) (h6 : Mem) =>
        Br b5 (Q (ByteArray.mk #[]) (ByteArray.mk #[]) false h6) (Q (bif !sLt alo blo then alo else blo) (bif sLt ahi bhi || sEq ahi bhi then ahi else bhi) true h6)))
theorem eq_keys_Meet (alo : ByteArray) (ahi : ByteArray) (blo : ByteArray) (bhi : ByteArray) (h : Mem) (Q : ByteArray → ByteArray → Bool → Mem → Prop) : wp_keys_Meet alo ahi blo bhi h Q = evFn PG fn_keys_Meet tab_keys_Meet [.string alo, .string ahi, .string blo, .string bhi] (.tup [(.leaf .str), (.leaf .str), (.leaf .bool)]) h Q := by kernel_rfl
theorem ok_keys_Meet : okF PG fn_keys_Meet tab_keys_Meet = true := by kernel_rfl
theorem call_keys_Meet {alo : ByteArray} {ahi : ByteArray} {blo : ByteArray} {bhi : ByteArray} {h : Mem} {Q : ByteArray → ByteArray → Bool → Mem → Prop} (w : wp_keys_Meet alo ahi blo bhi h Q) : CallF PG fn_keys_Meet [.string alo, .string ahi, .string blo, .string bhi] (.tup [(.leaf .str), (.leaf .str), (.leaf .bool)]) h Q := callF_of PM ok_keys_Meet (eq_keys_Meet alo ahi blo bhi h Q ▸ w)

/- 30: dunnage/keys.Empty -/
def tab_keys_Empty : Tab := ⟨[], [], []⟩
def wp_keys_Empty (lo : ByteArray) (hi : ByteArray) (h : Mem) (Q : Bool → Mem → Prop) : Prop :=
  Br (!sEq hi (ByteArray.mk #[])) (Q (sLt hi lo || sEq hi lo) h) (Q false h)
theorem eq_keys_Empty (lo : ByteArray) (hi : ByteArray) (h : Mem) (Q : Bool → Mem → Prop) : wp_keys_Empty lo hi h Q = evFn PG fn_keys_Empty tab_keys_Empty [.string lo, .string hi] (.one (.leaf .bool)) h Q := by kernel_rfl
theorem ok_keys_Empty : okF PG fn_keys_Empty tab_keys_Empty = true := by kernel_rfl
theorem call_keys_Empty {lo : ByteArray} {hi : ByteArray} {h : Mem} {Q : Bool → Mem → Prop} (w : wp_keys_Empty lo hi h Q) : CallF PG fn_keys_Empty [.string lo, .string hi] (.one (.leaf .bool)) h Q := callF_of PM ok_keys_Empty (eq_keys_Empty lo hi h Q ▸ w)

/- 31: dunnage/keys.Prefix; loop 2: [hi] -/
def tab_keys_Prefix : Tab := ⟨[(2, ⟨[(4, .leaf .sl)], [5, 8, 9, 10, 11, 12, 13, 14, 15, 16, 17, 18, 19, 20, 21, 22, 23, 24, 25, 26, 27, 28, 29, 30]⟩)], [], []⟩
def wp_keys_Prefix (p : ByteArray) (h : Mem) (Q : ByteArray → ByteArray → Mem → Prop) : Prop :=
  PrimT PG (convert ty_string ty_sl_uint8 (Value.string p)) (Kd.one (Cmp.leaf Leaf.sl)) h fun (s1 : Sl) (h2 : Mem) =>
    ∃ (I3 : Sl → Mem → Prop),
      ∃ (I4 : Sl → Mem → Nat),
        I3 (Sl.mk s1.a s1.len s1.cap) h2 ∧
          ∀ (j5 : Fr) (s6 : Sl) (h7 : Mem),
            I3 s6 h7 →
              Br (decide ((↑s6.len : Int) > 0))
                (Idx s6.a s6.len (IntKind.i64.wrap ((↑s6.len : Int) - 1)) fun (p8 : Addr) =>
                  Ld PG ty_uint8 (p8.add ((IntKind.i64.wrap ((↑s6.len : Int) - 1)).toNat * 1)) (Kd.one (Cmp.leaf (Leaf.int IntKind.u8))) h7 fun (n9 : Int) =>
                    Br (n9 == 255)
                      (Cut 1 s6.a s6.len s6.cap none (some (IntKind.i64.wrap ((↑s6.len : Int) - 1))) none fun (s10 : Sl) =>
                        I3 (Sl.mk s10.a s10.len s10.cap) h7 ∧ I4 (Sl.mk s10.a s10.len s10.cap) h7 < I4 s6 h7)
                      (Ld PG ty_uint8 (p8.add ((IntKind.i64.wrap ((↑s6.len : Int) - 1)).toNat * 1)) (Kd.one (Cmp.leaf (Leaf.int IntKind.u8))) h7 fun (n11 : Int) =>
                        St PG ty_uint8 (p8.add ((IntKind.i64.wrap ((↑s6.len : Int) - 1)).toNat * 1)) (Value.int IntKind.u8 (IntKind.u8.wrap (n11 + 1))) h7 fun (h12 : Mem) =>
                          ReadT PG (Conv.bytesToString (Value.slice s6.a s6.len s6.cap)) (Kd.one (Cmp.leaf Leaf.str)) h12 fun (t13 : ByteArray) => Q p t13 h12))
                (ReadT PG (Conv.bytesToString (Value.slice s6.a s6.len s6.cap)) (Kd.one (Cmp.leaf Leaf.str)) h7 fun (t14 : ByteArray) => Q p t14 h7)
theorem eq_keys_Prefix (p : ByteArray) (h : Mem) (Q : ByteArray → ByteArray → Mem → Prop) : wp_keys_Prefix p h Q = evFn PG fn_keys_Prefix tab_keys_Prefix [.string p] (.tup [(.leaf .str), (.leaf .str)]) h Q := by kernel_rfl
theorem ok_keys_Prefix : okF PG fn_keys_Prefix tab_keys_Prefix = true := by kernel_rfl
theorem call_keys_Prefix {p : ByteArray} {h : Mem} {Q : ByteArray → ByteArray → Mem → Prop} (w : wp_keys_Prefix p h Q) : CallF PG fn_keys_Prefix [.string p] (.tup [(.leaf .str), (.leaf .str)]) h Q := callF_of PM ok_keys_Prefix (eq_keys_Prefix p h Q ▸ w)

/- 32: dunnage/dunnageref09.Meet -/
def tab_dunnageref09_Meet : Tab := ⟨[], [], []⟩
def wp_dunnageref09_Meet (alo : ByteArray) (ahi : ByteArray) (blo : ByteArray) (bhi : ByteArray) (h : Mem) (Q : ByteArray → ByteArray → Bool → Mem → Prop) : Prop :=
  CallF PG fn_dunnageref09_Less [Value.string alo, Value.string blo] (Kd.one (Cmp.leaf Leaf.bool)) h fun (b1 : Bool) (h2 : Mem) =>
    Br b1
      (Br (sEq ahi (ByteArray.mk #[]))
        (CallF PG fn_dunnageref09_Empty [Value.string blo, Value.string bhi] (Kd.one (Cmp.leaf Leaf.bool)) h2 fun (b3 : Bool) (h4 : Mem) =>
          Br b3 (Q (ByteArray.mk #[]) (ByteArray.mk #[]) false h4) (Q blo bhi true h4))
        (Br (!sEq bhi (ByteArray.mk #[]))
          (CallF PG fn_dunnageref09_Less [Value.string bhi, Value.string ahi] (Kd.one (Cmp.leaf Leaf.bool)) h2 fun (b5 : Bool) (h6 : Mem) =>
            Br b5
              (CallF PG fn_dunnageref09_Empty [Value.string blo, Value.string bhi] (Kd.one (Cmp.leaf Leaf.bool)) h6 fun (b7 : Bool) (h8 : Mem) =>
                Br b7 (Q (ByteArray.mk #[]) (ByteArray.mk #[]) false h8) (Q blo bhi true h8))
              (CallF PG fn_dunnageref09_Empty [Value.string blo, Value.string ahi] (Kd.one (Cmp.leaf Leaf.bool)) h6 fun (b9 : Bool) (h10 : Mem) =>
                Br b9 (Q (ByteArray.mk #[]) (ByteArray.mk #[]) false h10) (Q blo ahi true h10)))
          (CallF PG fn_dunnageref09_Empty [Value.string blo, Value.string ahi] (Kd.one (Cmp.leaf Leaf.bool)) h2 fun (b11 : Bool) (h12 : Mem) =>
            Br b11 (Q (ByteArray.mk #[]) (ByteArray.mk #[]) false h12) (Q blo ahi true h12))))
      (Br (sEq ahi (ByteArray.mk #[]))
        (CallF PG fn_dunnageref09_Empty [Value.string alo, Value.string bhi] (Kd.one (Cmp.leaf Leaf.bool)) h2 fun (b13 : Bool) (h14 : Mem) =>
          Br b13 (Q (ByteArray.mk #[]) (ByteArray.mk #[]) false h14) (Q alo bhi true h14))
        (Br (!sEq bhi (ByteArray.mk #[]))
          (CallF PG fn_dunnageref09_Less [Value.string bhi, Value.string ahi] (Kd.one (Cmp.leaf Leaf.bool)) h2 fun (b15 : Bool) (h16 : Mem) =>
            Br b15
              (CallF PG fn_dunnageref09_Empty [Value.string alo, Value.string bhi] (Kd.one (Cmp.leaf Leaf.bool)) h16 fun (b17 : Bool) (h18 : Mem) =>
                Br b17 (Q (ByteArray.mk #[]) (ByteArray.mk #[]) false h18) (Q alo bhi true h18))
              (CallF PG fn_dunnageref09_Empty [Value.string alo, Value.string ahi] (Kd.one (Cmp.leaf Leaf.bool)) h16 fun (b19 : Bool) (h20 : Mem) =>
                Br b19 (Q (ByteArray.mk #[]) (ByteArray.mk #[]) false h20) (Q alo ahi true h20)))
          (CallF PG fn_dunnageref09_Empty [Value.string alo, Value.string ahi] (Kd.one (Cmp.leaf Leaf.bool)) h2 fun (b21 : Bool) (h22 : Mem) =>
            Br b21 (Q (ByteArray.mk #[]) (ByteArray.mk #[]) false h22) (Q alo ahi true h22))))
theorem eq_dunnageref09_Meet (alo : ByteArray) (ahi : ByteArray) (blo : ByteArray) (bhi : ByteArray) (h : Mem) (Q : ByteArray → ByteArray → Bool → Mem → Prop) : wp_dunnageref09_Meet alo ahi blo bhi h Q = evFn PG fn_dunnageref09_Meet tab_dunnageref09_Meet [.string alo, .string ahi, .string blo, .string bhi] (.tup [(.leaf .str), (.leaf .str), (.leaf .bool)]) h Q := by kernel_rfl
theorem ok_dunnageref09_Meet : okF PG fn_dunnageref09_Meet tab_dunnageref09_Meet = true := by kernel_rfl
theorem call_dunnageref09_Meet {alo : ByteArray} {ahi : ByteArray} {blo : ByteArray} {bhi : ByteArray} {h : Mem} {Q : ByteArray → ByteArray → Bool → Mem → Prop} (w : wp_dunnageref09_Meet alo ahi blo bhi h Q) : CallF PG fn_dunnageref09_Meet [.string alo, .string ahi, .string blo, .string bhi] (.tup [(.leaf .str), (.leaf .str), (.leaf .bool)]) h Q := callF_of PM ok_dunnageref09_Meet (eq_dunnageref09_Meet alo ahi blo bhi h Q ▸ w)

/- 33: dunnage/dunnageref09.Prefix; loop 2: [n] -/
def tab_dunnageref09_Prefix : Tab := ⟨[(2, ⟨[(4, .leaf (.int .i64))], [2, 3, 7, 8, 9, 10, 11, 12, 13, 14, 15, 16, 17, 18, 19, 20, 21, 22, 23, 24, 25, 26, 27, 28]⟩)], [], []⟩
def wp_dunnageref09_Prefix (p : ByteArray) (h : Mem) (Q : ByteArray → ByteArray → Mem → Prop) : Prop :=
  ∃ (I1 : Int → Mem → Prop),
    ∃ (I2 : Int → Mem → Nat),
      I1 (↑p.size : Int) h ∧
        ∀ (j3 : Fr) (n4 : Int) (h5 : Mem),
          I1 n4 h5 →
            Br (decide (n4 > 0))
              (IdxS p (IntKind.i64.wrap (n4 - 1)) fun (n6 : Int) =>
                Br (n6 != 255)
                  (CutS p none (some (IntKind.i64.wrap (n4 - 1))) fun (t7 : ByteArray) =>
                    IdxS p (IntKind.i64.wrap (n4 - 1)) fun (n8 : Int) =>
                      New (Obj.cells #[Value.int IntKind.u8 (IntKind.u8.wrap (n8 + 1))] ty_uint8) h5 fun (k9 : Nat) (h10 : Mem) =>
                        ReadT PG (Conv.bytesToString (Value.slice (some (Addr.mk k9 0 none)) 1 1)) (Kd.one (Cmp.leaf Leaf.str)) h10 fun (t11 : ByteArray) =>
                          Chk ((t7.size + t11.size).ble 9223372036854775807) (Q p (t7 ++ t11) h10))
                  (I1 (IntKind.i64.wrap (n4 - 1)) h5 ∧ I2 (IntKind.i64.wrap (n4 - 1)) h5 < I2 n4 h5))
              (Q p (ByteArray.mk #[]) h5)
theorem eq_dunnageref09_Prefix (p : ByteArray) (h : Mem) (Q : ByteArray → ByteArray → Mem → Prop) : wp_dunnageref09_Prefix p h Q = evFn PG fn_dunnageref09_Prefix tab_dunnageref09_Prefix [.string p] (.tup [(.leaf .str), (.leaf .str)]) h Q := by kernel_rfl
theorem ok_dunnageref09_Prefix : okF PG fn_dunnageref09_Prefix tab_dunnageref09_Prefix = true := by kernel_rfl
theorem call_dunnageref09_Prefix {p : ByteArray} {h : Mem} {Q : ByteArray → ByteArray → Mem → Prop} (w : wp_dunnageref09_Prefix p h Q) : CallF PG fn_dunnageref09_Prefix [.string p] (.tup [(.leaf .str), (.leaf .str)]) h Q := callF_of PM ok_dunnageref09_Prefix (eq_dunnageref09_Prefix p h Q ▸ w)

/- 34: dunnage/keys.May -/
def tab_keys_May : Tab := ⟨[], [], []⟩
def wp_keys_May (key : ByteArray) (h : Mem) (Q : Bool → Mem → Prop) : Prop :=
  Br (decide ((↑key.size : Int) ≥ 1)) (Q (decide ((↑key.size : Int) ≤ 64)) h) (Q false h)
theorem eq_keys_May (key : ByteArray) (h : Mem) (Q : Bool → Mem → Prop) : wp_keys_May key h Q = evFn PG fn_keys_May tab_keys_May [.string key] (.one (.leaf .bool)) h Q := by kernel_rfl
theorem ok_keys_May : okF PG fn_keys_May tab_keys_May = true := by kernel_rfl
theorem call_keys_May {key : ByteArray} {h : Mem} {Q : Bool → Mem → Prop} (w : wp_keys_May key h Q) : CallF PG fn_keys_May [.string key] (.one (.leaf .bool)) h Q := callF_of PM ok_keys_May (eq_keys_May key h Q ▸ w)

/- 35: dunnage/dunnageref09.May -/
def tab_dunnageref09_May : Tab := ⟨[], [], []⟩
def wp_dunnageref09_May (key : ByteArray) (h : Mem) (Q : Bool → Mem → Prop) : Prop :=
  Br (decide ((↑key.size : Int) ≥ 1)) (Q (decide ((↑key.size : Int) ≤ 64)) h) (Q false h)
theorem eq_dunnageref09_May (key : ByteArray) (h : Mem) (Q : Bool → Mem → Prop) : wp_dunnageref09_May key h Q = evFn PG fn_dunnageref09_May tab_dunnageref09_May [.string key] (.one (.leaf .bool)) h Q := by kernel_rfl
theorem ok_dunnageref09_May : okF PG fn_dunnageref09_May tab_dunnageref09_May = true := by kernel_rfl
theorem call_dunnageref09_May {key : ByteArray} {h : Mem} {Q : Bool → Mem → Prop} (w : wp_dunnageref09_May key h Q) : CallF PG fn_dunnageref09_May [.string key] (.one (.leaf .bool)) h Q := callF_of PM ok_dunnageref09_May (eq_dunnageref09_May key h Q ▸ w)

/- 36: dunnage/dunnageref09.Less; loop 2: [i] -/
def tab_dunnageref09_Less : Tab := ⟨[(2, ⟨[(5, .leaf (.int .i64))], [4, 6, 7, 8, 9, 10, 11, 12, 13, 14, 15, 16, 17, 18, 19, 20, 21, 22, 23, 24, 25, 26, 27, 28, 29, 30, 31]⟩)], [], []⟩
def wp_dunnageref09_Less (a : ByteArray) (b : ByteArray) (h : Mem) (Q : Bool → Mem → Prop) : Prop :=
  ∃ (I1 : Int → Mem → Prop),
    ∃ (I2 : Int → Mem → Nat),
      I1 0 h ∧
        ∀ (j3 : Fr) (n4 : Int) (h5 : Mem),
          I1 n4 h5 →
            Br (decide (n4 < (↑a.size : Int)))
              (Br (decide (n4 < (↑b.size : Int)))
                (IdxS a n4 fun (n6 : Int) =>
                  IdxS b n4 fun (n7 : Int) =>
                    Br (n6 != n7) (IdxS a n4 fun (n8 : Int) => IdxS b n4 fun (n9 : Int) => Q (decide (n8 < n9)) h5)
                      (I1 (IntKind.i64.wrap (n4 + 1)) h5 ∧ I2 (IntKind.i64.wrap (n4 + 1)) h5 < I2 n4 h5))
                (Q (decide ((↑a.size : Int) < (↑b.size : Int))) h5))
              (Q (decide ((↑a.size : Int) < (↑b.size : Int))) h5)
theorem eq_dunnageref09_Less (a : ByteArray) (b : ByteArray) (h : Mem) (Q : Bool → Mem → Prop) : wp_dunnageref09_Less a b h Q = evFn PG fn_dunnageref09_Less tab_dunnageref09_Less [.string a, .string b] (.one (.leaf .bool)) h Q := by kernel_rfl
theorem ok_dunnageref09_Less : okF PG fn_dunnageref09_Less tab_dunnageref09_Less = true := by kernel_rfl
theorem call_dunnageref09_Less {a : ByteArray} {b : ByteArray} {h : Mem} {Q : Bool → Mem → Prop} (w : wp_dunnageref09_Less a b h Q) : CallF PG fn_dunnageref09_Less [.string a, .string b] (.one (.leaf .bool)) h Q := callF_of PM ok_dunnageref09_Less (eq_dunnageref09_Less a b h Q ▸ w)

/- 37: dunnage/dunnageref09.Within -/
def tab_dunnageref09_Within : Tab := ⟨[], [], []⟩
def wp_dunnageref09_Within (lo : ByteArray) (hi : ByteArray) (key : ByteArray) (h : Mem) (Q : Bool → Mem → Prop) : Prop :=
  CallF PG fn_dunnageref09_Less [Value.string key, Value.string lo] (Kd.one (Cmp.leaf Leaf.bool)) h fun (b1 : Bool) (h2 : Mem) =>
    Br (!b1)
      (Br (sEq hi (ByteArray.mk #[])) (Q true h2) (CallF PG fn_dunnageref09_Less [Value.string key, Value.string hi] (Kd.one (Cmp.leaf Leaf.bool)) h2 fun (b3 : Bool) (h4 : Mem) => Q b3 h4))
      (Q false h2)
theorem eq_dunnageref09_Within (lo : ByteArray) (hi : ByteArray) (key : ByteArray) (h : Mem) (Q : Bool → Mem → Prop) : wp_dunnageref09_Within lo hi key h Q = evFn PG fn_dunnageref09_Within tab_dunnageref09_Within [.string lo, .string hi, .string key] (.one (.leaf .bool)) h Q := by kernel_rfl
theorem ok_dunnageref09_Within : okF PG fn_dunnageref09_Within tab_dunnageref09_Within = true := by kernel_rfl
theorem call_dunnageref09_Within {lo : ByteArray} {hi : ByteArray} {key : ByteArray} {h : Mem} {Q : Bool → Mem → Prop} (w : wp_dunnageref09_Within lo hi key h Q) : CallF PG fn_dunnageref09_Within [.string lo, .string hi, .string key] (.one (.leaf .bool)) h Q := callF_of PM ok_dunnageref09_Within (eq_dunnageref09_Within lo hi key h Q ▸ w)

/- 38: dunnage/dunnageref09.Empty -/
def tab_dunnageref09_Empty : Tab := ⟨[], [], []⟩
def wp_dunnageref09_Empty (lo : ByteArray) (hi : ByteArray) (h : Mem) (Q : Bool → Mem → Prop) : Prop :=
  Br (!sEq hi (ByteArray.mk #[])) (CallF PG fn_dunnageref09_Less [Value.string lo, Value.string hi] (Kd.one (Cmp.leaf Leaf.bool)) h fun (b1 : Bool) (h2 : Mem) => Q (!b1) h2) (Q false h)
theorem eq_dunnageref09_Empty (lo : ByteArray) (hi : ByteArray) (h : Mem) (Q : Bool → Mem → Prop) : wp_dunnageref09_Empty lo hi h Q = evFn PG fn_dunnageref09_Empty tab_dunnageref09_Empty [.string lo, .string hi] (.one (.leaf .bool)) h Q := by kernel_rfl
theorem ok_dunnageref09_Empty : okF PG fn_dunnageref09_Empty tab_dunnageref09_Empty = true := by kernel_rfl
theorem call_dunnageref09_Empty {lo : ByteArray} {hi : ByteArray} {h : Mem} {Q : Bool → Mem → Prop} (w : wp_dunnageref09_Empty lo hi h Q) : CallF PG fn_dunnageref09_Empty [.string lo, .string hi] (.one (.leaf .bool)) h Q := callF_of PM ok_dunnageref09_Empty (eq_dunnageref09_Empty lo hi h Q ▸ w)

/- 39: dunnage/dunnageref09.Next -/
def tab_dunnageref09_Next : Tab := ⟨[], [], []⟩
def wp_dunnageref09_Next (key : ByteArray) (h : Mem) (Q : ByteArray → Mem → Prop) : Prop :=
  Chk ((key.size + 1).ble 9223372036854775807) (Q (key ++ ByteArray.mk #[0]) h)
theorem eq_dunnageref09_Next (key : ByteArray) (h : Mem) (Q : ByteArray → Mem → Prop) : wp_dunnageref09_Next key h Q = evFn PG fn_dunnageref09_Next tab_dunnageref09_Next [.string key] (.one (.leaf .str)) h Q := by kernel_rfl
theorem ok_dunnageref09_Next : okF PG fn_dunnageref09_Next tab_dunnageref09_Next = true := by kernel_rfl
theorem call_dunnageref09_Next {key : ByteArray} {h : Mem} {Q : ByteArray → Mem → Prop} (w : wp_dunnageref09_Next key h Q) : CallF PG fn_dunnageref09_Next [.string key] (.one (.leaf .str)) h Q := callF_of PM ok_dunnageref09_Next (eq_dunnageref09_Next key h Q ▸ w)

end Go.Dn.W
