/- What each function asks for: typed text, and the theorem that the code does it. -/
import Derived.Test.YtbipdjmdacelkaaGreatDnNames
set_option maxRecDepth 100000
set_option linter.unusedVariables false
namespace Go.Dn.W
open Go Go.Dn Go.Proofs

/- 61: (*dunnage/arena.Arena).Root -/
def tab_arena_Arena_Root : Tab := ⟨[], [], []⟩
def wp_arena_Arena_Root (a : Option Addr) (slot : Int) (h : Mem) (Q : Int → Mem → Prop) : Prop :=
  Br
    (match a with
    | some p2 => false
    | none => true)
    (Q 0 h)
    (Br (decide (slot < 0)) (Q 0 h)
      (Deref a fun (p4 : Addr) =>
        Ld PG ty_sl_int (p4.add 2) (Kd.one (Cmp.leaf Leaf.sl)) h fun (s5 : Sl) =>
          Br (decide (slot ≥ (↑s5.len : Int))) (Q 0 h)
            (Deref a fun (p6 : Addr) =>
              Ld PG ty_sl_int (p6.add 2) (Kd.one (Cmp.leaf Leaf.sl)) h fun (s7 : Sl) =>
                Idx s7.a s7.len slot fun (p8 : Addr) => Ld PG ty_int (p8.add (slot.toNat * 1)) (Kd.one (Cmp.leaf (Leaf.int IntKind.i64))) h fun (n9 : Int) => Q n9 h)))
theorem eq_arena_Arena_Root (a : Option Addr) (slot : Int) (h : Mem) (Q : Int → Mem → Prop) : wp_arena_Arena_Root a slot h Q = evFn PG fn_arena_Arena_Root tab_arena_Arena_Root [.pointer a, .int .i64 slot] (.one (.leaf (.int .i64))) h Q := by kernel_rfl
theorem ok_arena_Arena_Root : okF PG fn_arena_Arena_Root tab_arena_Arena_Root = true := by kernel_rfl
theorem call_arena_Arena_Root {a : Option Addr} {slot : Int} {h : Mem} {Q : Int → Mem → Prop} (hw' : wp_arena_Arena_Root a slot h Q) : CallF PG fn_arena_Arena_Root [.pointer a, .int .i64 slot] (.one (.leaf (.int .i64))) h Q := callF_of PM ok_arena_Arena_Root (eq_arena_Arena_Root a slot h Q ▸ hw')

/- 66: (*dunnage/arena.Arena).SetRoot -/
def tab_arena_Arena_SetRoot : Tab := ⟨[], [], []⟩
def wp_arena_Arena_SetRoot (a : Option Addr) (slot : Int) (at' : Int) (h : Mem) (Q : Int → Mem → Prop) : Prop :=
  Br
    (match a with
    | some p2 => false
    | none => true)
    (Q 2 h)
    (Br (decide (slot < 0)) (Q 1 h)
      (Deref a fun (p4 : Addr) =>
        Ld PG ty_sl_int (p4.add 2) (Kd.one (Cmp.leaf Leaf.sl)) h fun (s5 : Sl) =>
          Br (decide (slot ≥ (↑s5.len : Int))) (Q 1 h)
            (Br (at' != 0)
              (Deref a fun (p6 : Addr) =>
                Ld PG ty_func_int_bool (p6.add 4) (Kd.one (Cmp.leaf Leaf.raw)) h fun (v7 : Value) =>
                  CallV PG v7 [Value.int IntKind.i64 at'] (Kd.one (Cmp.leaf Leaf.bool)) h fun (b8 : Bool) (h9 : Mem) =>
                    Br (!b8) (Q 1 h9)
                      (Deref a fun (p10 : Addr) =>
                        Ld PG ty_sl_int (p10.add 2) (Kd.one (Cmp.leaf Leaf.sl)) h9 fun (s11 : Sl) =>
                          Idx s11.a s11.len slot fun (p12 : Addr) => St PG ty_int (p12.add (slot.toNat * 1)) (Value.int IntKind.i64 at') h9 fun (h13 : Mem) => Q 0 h13))
              (Deref a fun (p14 : Addr) =>
                Ld PG ty_sl_int (p14.add 2) (Kd.one (Cmp.leaf Leaf.sl)) h fun (s15 : Sl) =>
                  Idx s15.a s15.len slot fun (p16 : Addr) => St PG ty_int (p16.add (slot.toNat * 1)) (Value.int IntKind.i64 at') h fun (h17 : Mem) => Q 0 h17))))
theorem eq_arena_Arena_SetRoot (a : Option Addr) (slot : Int) (at' : Int) (h : Mem) (Q : Int → Mem → Prop) : wp_arena_Arena_SetRoot a slot at' h Q = evFn PG fn_arena_Arena_SetRoot tab_arena_Arena_SetRoot [.pointer a, .int .i64 slot, .int .i64 at'] (.one (.leaf (.int .i64))) h Q := by kernel_rfl
theorem ok_arena_Arena_SetRoot : okF PG fn_arena_Arena_SetRoot tab_arena_Arena_SetRoot = true := by kernel_rfl
theorem call_arena_Arena_SetRoot {a : Option Addr} {slot : Int} {at' : Int} {h : Mem} {Q : Int → Mem → Prop} (hw' : wp_arena_Arena_SetRoot a slot at' h Q) : CallF PG fn_arena_Arena_SetRoot [.pointer a, .int .i64 slot, .int .i64 at'] (.one (.leaf (.int .i64))) h Q := callF_of PM ok_arena_Arena_SetRoot (eq_arena_Arena_SetRoot a slot at' h Q ▸ hw')

/- 73: (*dunnage/arena.Arena).Pack -/
def tab_arena_Arena_Pack : Tab := ⟨[], [], []⟩
def wp_arena_Arena_Pack (a : Option Addr) (h : Mem) (Q : Int → Mem → Prop) : Prop :=
  Br
    (match a with
    | some p2 => false
    | none => true)
    (Q 0 h)
    (Deref a fun (p4 : Addr) =>
      Ld PG ty_sl_uint32 p4 (Kd.one (Cmp.leaf Leaf.sl)) h fun (s5 : Sl) =>
        Deref a fun (p6 : Addr) =>
          Ld PG ty_sl_int (p6.add 2) (Kd.one (Cmp.leaf Leaf.sl)) h fun (s7 : Sl) =>
            CallF PG fn_thread_Compact [Value.slice s5.a s5.len s5.cap, Value.slice s7.a s7.len s7.cap]
              (Kd.tup [Cmp.leaf Leaf.sl, Cmp.leaf Leaf.sl, Cmp.leaf Leaf.sl, Cmp.leaf (Leaf.int IntKind.i64)]) h fun (s8 s9 s10 : Sl) (n11 : Int) (h12 : Mem) =>
              Br (n11 != 0) (Q 0 h12)
                (Deref a fun (p13 : Addr) =>
                  Ld PG ty_sl_uint32 p13 (Kd.one (Cmp.leaf Leaf.sl)) h12 fun (s14 : Sl) =>
                    CallF PG fn_arena_Arena_fill [Value.pointer a, Value.slice s8.a s8.len s8.cap, Value.slice s9.a s9.len s9.cap] (Kd.tup []) h12 fun (h15 : Mem) =>
                      Q (IntKind.i64.wrap ((↑s14.len : Int) - (↑s8.len : Int))) h15))
theorem eq_arena_Arena_Pack (a : Option Addr) (h : Mem) (Q : Int → Mem → Prop) : wp_arena_Arena_Pack a h Q = evFn PG fn_arena_Arena_Pack tab_arena_Arena_Pack [.pointer a] (.one (.leaf (.int .i64))) h Q := by kernel_rfl
theorem ok_arena_Arena_Pack : okF PG fn_arena_Arena_Pack tab_arena_Arena_Pack = true := by kernel_rfl
theorem call_arena_Arena_Pack {a : Option Addr} {h : Mem} {Q : Int → Mem → Prop} (hw' : wp_arena_Arena_Pack a h Q) : CallF PG fn_arena_Arena_Pack [.pointer a] (.one (.leaf (.int .i64))) h Q := callF_of PM ok_arena_Arena_Pack (eq_arena_Arena_Pack a h Q ▸ hw')

/- 89: dunnage/arena.New -/
def tab_arena_New : Tab := ⟨[], [], []⟩
def wp_arena_New (words : Int) (h : Mem) (Q : Option Addr → Int → Mem → Prop) : Prop :=
  Br (decide (words < 16)) (Q none 1 h)
    (Br (decide (words > 1048576)) (Q none 1 h)
      (New (Obj.cells #[Value.slice none 0 0, Value.int IntKind.i64 words, Value.slice none 0 0, Value.map none, Value.nilFunc] ty_arena_Arena) h fun (k1 : Nat) (h2 : Mem) =>
        New (Obj.cells #[Value.int IntKind.u32 0] ty_uint32) h2 fun (k3 : Nat) (h4 : Mem) =>
          PrimT PG (Instr.makeSlice ty_sl_int (Value.int IntKind.i64 16) (Value.int IntKind.i64 16)) (Kd.one (Cmp.leaf Leaf.sl)) h4 fun (s5 : Sl) (h6 : Mem) =>
            CallF PG fn_arena_Arena_fill [Value.pointer (some (Addr.mk k1 0 none)), Value.slice (some (Addr.mk k3 0 none)) 1 1, Value.slice s5.a s5.len s5.cap] (Kd.tup []) h6
              fun (h7 : Mem) => Q (some (Addr.mk k1 0 none)) 0 h7))
theorem eq_arena_New (words : Int) (h : Mem) (Q : Option Addr → Int → Mem → Prop) : wp_arena_New words h Q = evFn PG fn_arena_New tab_arena_New [.int .i64 words] (.tup [(.leaf .ptr), (.leaf (.int .i64))]) h Q := by kernel_rfl
theorem ok_arena_New : okF PG fn_arena_New tab_arena_New = true := by kernel_rfl
theorem call_arena_New {words : Int} {h : Mem} {Q : Option Addr → Int → Mem → Prop} (hw' : wp_arena_New words h Q) : CallF PG fn_arena_New [.int .i64 words] (.tup [(.leaf .ptr), (.leaf (.int .i64))]) h Q := callF_of PM ok_arena_New (eq_arena_New words h Q ▸ hw')

/- 97: (*dunnage/arena.Arena).All -/
def tab_arena_Arena_All : Tab := ⟨[], [], []⟩
def wp_arena_Arena_All (a : Option Addr) (h : Mem) (Q : Value → Mem → Prop) : Prop :=
  New (Obj.cells #[Value.slice none 0 0] ty_sl_uint32) h fun (k1 : Nat) (h2 : Mem) =>
    Br
      (!match a with
        | some p4 => false
        | none => true)
      (Deref a fun (p6 : Addr) =>
        Ld PG ty_sl_uint32 p6 (Kd.one (Cmp.leaf Leaf.sl)) h2 fun (s7 : Sl) =>
          CallF PG fn_slices_Clone_uint32_uint32_ [Value.slice s7.a s7.len s7.cap] (Kd.one (Cmp.leaf Leaf.sl)) h2 fun (s8 : Sl) (h9 : Mem) =>
            St PG ty_sl_uint32 (Addr.mk k1 0 none) (Value.slice s8.a s8.len s8.cap) h9 fun (h10 : Mem) =>
              Q (Value.func (Fn.func fn_arena_Arena_All_1) #[] #[Value.pointer (some (Addr.mk k1 0 none))]) h10)
      (Q (Value.func (Fn.func fn_arena_Arena_All_1) #[] #[Value.pointer (some (Addr.mk k1 0 none))]) h2)
theorem eq_arena_Arena_All (a : Option Addr) (h : Mem) (Q : Value → Mem → Prop) : wp_arena_Arena_All a h Q = evFn PG fn_arena_Arena_All tab_arena_Arena_All [.pointer a] (.one (.leaf .raw)) h Q := by kernel_rfl
theorem ok_arena_Arena_All : okF PG fn_arena_Arena_All tab_arena_Arena_All = true := by kernel_rfl
theorem call_arena_Arena_All {a : Option Addr} {h : Mem} {Q : Value → Mem → Prop} (hw' : wp_arena_Arena_All a h Q) : CallF PG fn_arena_Arena_All [.pointer a] (.one (.leaf .raw)) h Q := callF_of PM ok_arena_Arena_All (eq_arena_Arena_All a h Q ▸ hw')

/- 99: (*dunnage/arena.Arena).Set -/
def tab_arena_Arena_Set : Tab := ⟨[], [], []⟩
def wp_arena_Arena_Set (a : Option Addr) (at' : Int) (i : Int) (v : Int) (h : Mem) (Q : Int → Mem → Prop) : Prop :=
  Br
    (match a with
    | some p2 => false
    | none => true)
    (Q 2 h)
    (Deref a fun (p4 : Addr) =>
      Ld PG ty_func_int_bool (p4.add 4) (Kd.one (Cmp.leaf Leaf.raw)) h fun (v5 : Value) =>
        CallV PG v5 [Value.int IntKind.i64 at'] (Kd.one (Cmp.leaf Leaf.bool)) h fun (b6 : Bool) (h7 : Mem) =>
          Br (!b6) (Q 6 h7)
            (Deref a fun (p8 : Addr) =>
              Ld PG ty_sl_uint32 p8 (Kd.one (Cmp.leaf Leaf.sl)) h7 fun (s9 : Sl) =>
                Idx s9.a s9.len at' fun (p10 : Addr) =>
                  Ld PG ty_uint32 (p10.add (at'.toNat * 1)) (Kd.one (Cmp.leaf (Leaf.int IntKind.u32))) h7 fun (n11 : Int) =>
                    CallF PG fn_cells_Ptrs [Value.int IntKind.u32 n11] (Kd.one (Cmp.leaf (Leaf.int IntKind.i64))) h7 fun (n12 : Int) (h13 : Mem) =>
                      Br (decide (i < 0)) (Q 1 h13)
                        (CallF PG fn_cells_Size [Value.int IntKind.u32 n11] (Kd.one (Cmp.leaf (Leaf.int IntKind.i64))) h13 fun (n14 : Int) (h15 : Mem) =>
                          Br (decide (i ≥ IntKind.i64.wrap (n14 - IntKind.i64.wrap (1 + n12)))) (Q 1 h15)
                            (Deref a fun (p16 : Addr) =>
                              Ld PG ty_sl_uint32 p16 (Kd.one (Cmp.leaf Leaf.sl)) h15 fun (s17 : Sl) =>
                                Idx s17.a s17.len (IntKind.i64.wrap (IntKind.i64.wrap (at' + IntKind.i64.wrap (1 + n12)) + i)) fun (p18 : Addr) =>
                                  St PG ty_uint32 (p18.add ((IntKind.i64.wrap (IntKind.i64.wrap (at' + IntKind.i64.wrap (1 + n12)) + i)).toNat * 1)) (Value.int IntKind.u32 v) h15
                                    fun (h19 : Mem) => Q 0 h19))))
theorem eq_arena_Arena_Set (a : Option Addr) (at' : Int) (i : Int) (v : Int) (h : Mem) (Q : Int → Mem → Prop) : wp_arena_Arena_Set a at' i v h Q = evFn PG fn_arena_Arena_Set tab_arena_Arena_Set [.pointer a, .int .i64 at', .int .i64 i, .int .u32 v] (.one (.leaf (.int .i64))) h Q := by kernel_rfl
theorem ok_arena_Arena_Set : okF PG fn_arena_Arena_Set tab_arena_Arena_Set = true := by kernel_rfl
theorem call_arena_Arena_Set {a : Option Addr} {at' : Int} {i : Int} {v : Int} {h : Mem} {Q : Int → Mem → Prop} (hw' : wp_arena_Arena_Set a at' i v h Q) : CallF PG fn_arena_Arena_Set [.pointer a, .int .i64 at', .int .i64 i, .int .u32 v] (.one (.leaf (.int .i64))) h Q := callF_of PM ok_arena_Arena_Set (eq_arena_Arena_Set a at' i v h Q ▸ hw')

/- 102: (*dunnage/arena.Arena).Used -/
def tab_arena_Arena_Used : Tab := ⟨[], [], []⟩
def wp_arena_Arena_Used (a : Option Addr) (h : Mem) (Q : Int → Mem → Prop) : Prop :=
  Br
    (match a with
    | some p2 => false
    | none => true)
    (Q 0 h) (Deref a fun (p4 : Addr) => Ld PG ty_sl_uint32 p4 (Kd.one (Cmp.leaf Leaf.sl)) h fun (s5 : Sl) => Q (↑s5.len : Int) h)
theorem eq_arena_Arena_Used (a : Option Addr) (h : Mem) (Q : Int → Mem → Prop) : wp_arena_Arena_Used a h Q = evFn PG fn_arena_Arena_Used tab_arena_Arena_Used [.pointer a] (.one (.leaf (.int .i64))) h Q := by kernel_rfl
theorem ok_arena_Arena_Used : okF PG fn_arena_Arena_Used tab_arena_Arena_Used = true := by kernel_rfl
theorem call_arena_Arena_Used {a : Option Addr} {h : Mem} {Q : Int → Mem → Prop} (hw' : wp_arena_Arena_Used a h Q) : CallF PG fn_arena_Arena_Used [.pointer a] (.one (.leaf (.int .i64))) h Q := callF_of PM ok_arena_Arena_Used (eq_arena_Arena_Used a h Q ▸ hw')

/- 103: (*dunnage/arena.Arena).At -/
def tab_arena_Arena_At : Tab := ⟨[], [], []⟩
def wp_arena_Arena_At (a : Option Addr) (at' : Int) (h : Mem) (Q : Int → Sl → Sl → Int → Mem → Prop) : Prop :=
  New (Obj.cells #[Value.int IntKind.i64 0, Value.slice none 0 0, Value.slice none 0 0] ty_api_Object) h fun (k1 : Nat) (h2 : Mem) =>
    Br
      (match a with
      | some p4 => false
      | none => true)
      (St PG ty_api_Object (Addr.mk k1 0 none) (Value.agg #[Value.int IntKind.i64 0, Value.slice none 0 0, Value.slice none 0 0]) h2 fun (h6 : Mem) =>
        Ld PG ty_api_Object (Addr.mk k1 0 none) (Kd.one (Cmp.agg [Leaf.int IntKind.i64, Leaf.sl, Leaf.sl])) h6 fun (n7 : Int) (s8 s9 : Sl) =>
          Q n7 (Sl.mk s8.a s8.len s8.cap) (Sl.mk s9.a s9.len s9.cap) 2 h6)
      (Deref a fun (p10 : Addr) =>
        Ld PG ty_func_int_bool (p10.add 4) (Kd.one (Cmp.leaf Leaf.raw)) h2 fun (v11 : Value) =>
          CallV PG v11 [Value.int IntKind.i64 at'] (Kd.one (Cmp.leaf Leaf.bool)) h2 fun (b12 : Bool) (h13 : Mem) =>
            Br (!b12)
              (St PG ty_api_Object (Addr.mk k1 0 none) (Value.agg #[Value.int IntKind.i64 0, Value.slice none 0 0, Value.slice none 0 0]) h13 fun (h14 : Mem) =>
                Ld PG ty_api_Object (Addr.mk k1 0 none) (Kd.one (Cmp.agg [Leaf.int IntKind.i64, Leaf.sl, Leaf.sl])) h14 fun (n15 : Int) (s16 s17 : Sl) =>
                  Q n15 (Sl.mk s16.a s16.len s16.cap) (Sl.mk s17.a s17.len s17.cap) 6 h14)
              (Deref a fun (p18 : Addr) =>
                Ld PG ty_sl_uint32 p18 (Kd.one (Cmp.leaf Leaf.sl)) h13 fun (s19 : Sl) =>
                  CallF PG fn_arena_object [Value.slice s19.a s19.len s19.cap, Value.int IntKind.i64 at'] (Kd.one (Cmp.agg [Leaf.int IntKind.i64, Leaf.sl, Leaf.sl])) h13
                    fun (n20 : Int) (s21 s22 : Sl) (h23 : Mem) =>
                    St PG ty_api_Object (Addr.mk k1 0 none) (Value.agg #[Value.int IntKind.i64 n20, Value.slice s21.a s21.len s21.cap, Value.slice s22.a s22.len s22.cap]) h23
                      fun (h24 : Mem) =>
                      Ld PG ty_api_Object (Addr.mk k1 0 none) (Kd.one (Cmp.agg [Leaf.int IntKind.i64, Leaf.sl, Leaf.sl])) h24 fun (n25 : Int) (s26 s27 : Sl) =>
                        Q n25 (Sl.mk s26.a s26.len s26.cap) (Sl.mk s27.a s27.len s27.cap) 0 h24))
theorem eq_arena_Arena_At (a : Option Addr) (at' : Int) (h : Mem) (Q : Int → Sl → Sl → Int → Mem → Prop) : wp_arena_Arena_At a at' h Q = evFn PG fn_arena_Arena_At tab_arena_Arena_At [.pointer a, .int .i64 at'] (.tup [(.agg [(.int .i64), .sl, .sl]), (.leaf (.int .i64))]) h Q := by kernel_rfl
theorem ok_arena_Arena_At : okF PG fn_arena_Arena_At tab_arena_Arena_At = true := by kernel_rfl
theorem call_arena_Arena_At {a : Option Addr} {at' : Int} {h : Mem} {Q : Int → Sl → Sl → Int → Mem → Prop} (hw' : wp_arena_Arena_At a at' h Q) : CallF PG fn_arena_Arena_At [.pointer a, .int .i64 at'] (.tup [(.agg [(.int .i64), .sl, .sl]), (.leaf (.int .i64))]) h Q := callF_of PM ok_arena_Arena_At (eq_arena_Arena_At a at' h Q ▸ hw')

/- 112: (*dunnage/arena.Arena).fill; range 4: [, ] -/
def tab_arena_Arena_fill : Tab := ⟨[(4, ⟨[(26, .leaf (.int .i64)), (27, .leaf (.int .u32))], []⟩)], [], [(1, .nil)]⟩
def wp_arena_Arena_fill (a : Option Addr) (w : Sl) (roots : Sl) (h : Mem) (Q : Mem → Prop) : Prop :=
  New (Obj.cells #[Value.pointer a] ty_ptr_arena_Arena) h fun (k1 : Nat) (h2 : Mem) =>
    Ld PG ty_ptr_arena_Arena (Addr.mk k1 0 none) (Kd.one (Cmp.leaf Leaf.ptr)) h2 fun (q3 : Option Addr) =>
      Ld PG ty_ptr_arena_Arena (Addr.mk k1 0 none) (Kd.one (Cmp.leaf Leaf.ptr)) h2 fun (q4 : Option Addr) =>
        Ld PG ty_ptr_arena_Arena (Addr.mk k1 0 none) (Kd.one (Cmp.leaf Leaf.ptr)) h2 fun (q5 : Option Addr) =>
          Ld PG ty_ptr_arena_Arena (Addr.mk k1 0 none) (Kd.one (Cmp.leaf Leaf.ptr)) h2 fun (q6 : Option Addr) =>
            Ld PG ty_ptr_arena_Arena (Addr.mk k1 0 none) (Kd.one (Cmp.leaf Leaf.ptr)) h2 fun (q7 : Option Addr) =>
              Deref q3 fun (p8 : Addr) =>
                (PrimT PG (Instr.makeMap ty_map_int_bool none) (Kd.one (Cmp.leaf Leaf.map)) h2 fun (q9 : Option Nat) (h10 : Mem) =>
                    (Ld PG ty_ptr_arena_Arena (Addr.mk k1 0 none) (Kd.one (Cmp.leaf Leaf.ptr)) h10 fun (q11 : Option Addr) => Value.pointer q11 = Value.pointer q7) ∧
                      (Ld PG ty_ptr_arena_Arena (Addr.mk k1 0 none) (Kd.one (Cmp.leaf Leaf.ptr)) h10 fun (q12 : Option Addr) => Value.pointer q12 = Value.pointer q6) ∧
                        (Ld PG ty_ptr_arena_Arena (Addr.mk k1 0 none) (Kd.one (Cmp.leaf Leaf.ptr)) h10 fun (q13 : Option Addr) => Value.pointer q13 = Value.pointer q5) ∧
                          (Ld PG ty_ptr_arena_Arena (Addr.mk k1 0 none) (Kd.one (Cmp.leaf Leaf.ptr)) h10 fun (q14 : Option Addr) => Value.pointer q14 = Value.pointer q4) ∧
                            (Ld PG ty_ptr_arena_Arena (Addr.mk k1 0 none) (Kd.one (Cmp.leaf Leaf.ptr)) h10 fun (q15 : Option Addr) => Value.pointer q15 = Value.pointer q3) ∧
                              St PG ty_sl_uint32 p8 (Value.slice w.a w.len w.cap) h10 fun (h16 : Mem) =>
                                (Ld PG ty_ptr_arena_Arena (Addr.mk k1 0 none) (Kd.one (Cmp.leaf Leaf.ptr)) h16 fun (q17 : Option Addr) => Value.pointer q17 = Value.pointer q7) ∧
                                  (Ld PG ty_ptr_arena_Arena (Addr.mk k1 0 none) (Kd.one (Cmp.leaf Leaf.ptr)) h16 fun (q18 : Option Addr) => Value.pointer q18 = Value.pointer q6) ∧
                                    (Ld PG ty_ptr_arena_Arena (Addr.mk k1 0 none) (Kd.one (Cmp.leaf Leaf.ptr)) h16 fun (q19 : Option Addr) => Value.pointer q19 = Value.pointer q5) ∧
                                      (Ld PG ty_ptr_arena_Arena (Addr.mk k1 0 none) (Kd.one (Cmp.leaf Leaf.ptr)) h16 fun (q20 : Option Addr) => Value.pointer q20 = Value.pointer q4) ∧
                                        Deref q4 fun (p21 : Addr) =>
                                          St PG ty_sl_int (p21.add 2) (Value.slice roots.a roots.len roots.cap) h16 fun (h22 : Mem) =>
                                            (Ld PG ty_ptr_arena_Arena (Addr.mk k1 0 none) (Kd.one (Cmp.leaf Leaf.ptr)) h22 fun (q23 : Option Addr) => Value.pointer q23 = Value.pointer q7) ∧
                                              (Ld PG ty_ptr_arena_Arena (Addr.mk k1 0 none) (Kd.one (Cmp.leaf Leaf.ptr)) h22 fun (q24 : Option Addr) =>
                                                  Value.pointer q24 = Value.pointer q6) ∧
                                                (Ld PG ty_ptr_arena_Arena (Addr.mk k1 0 none) (Kd.one (Cmp.leaf Leaf.ptr)) h22 fun (q25 : Option Addr) =>
                                                    Value.pointer q25 = Value.pointer q5) ∧
                                                  Deref q5 fun (p26 : Addr) =>
                                                    St PG ty_map_int_bool (p26.add 3) (Value.map q9) h22 fun (h27 : Mem) =>
                                                      (Ld PG ty_ptr_arena_Arena (Addr.mk k1 0 none) (Kd.one (Cmp.leaf Leaf.ptr)) h27 fun (q28 : Option Addr) =>
                                                          Value.pointer q28 = Value.pointer q7) ∧
                                                        (Ld PG ty_ptr_arena_Arena (Addr.mk k1 0 none) (Kd.one (Cmp.leaf Leaf.ptr)) h27 fun (q29 : Option Addr) =>
                                                            Value.pointer q29 = Value.pointer q6) ∧
                                                          Deref q6 fun (p30 : Addr) =>
                                                            St PG ty_func_int_bool (p30.add 4) (Value.func (Fn.func fn_arena_Arena_has) #[Value.pointer q7] #[]) h27 fun (h31 : Mem) =>
                                                              CallF PG fn_cells_All [Value.slice w.a w.len w.cap] (Kd.one (Cmp.leaf Leaf.raw)) h31 fun (v32 : Value) (h33 : Mem) =>
                                                                RangeFn PG v32 h33 [Cmp.leaf (Leaf.int IntKind.i64), Cmp.leaf (Leaf.int IntKind.u32)]
                                                                  (fun (n34 n35 : Int) (h36 : Mem) (I37 : Mem → (Mem → Prop) → Prop) (I38 I39 I40 : Mem → Prop) =>
                                                                    I37 h36 fun (h41 : Mem) =>
                                                                      Ld PG ty_ptr_arena_Arena (Addr.mk k1 0 none) (Kd.one (Cmp.leaf Leaf.ptr)) h41 fun (q42 : Option Addr) =>
                                                                        Deref q42 fun (p43 : Addr) =>
                                                                          Ld PG ty_map_int_bool (p43.add 3) (Kd.one (Cmp.leaf Leaf.map)) h41 fun (q44 : Option Nat) =>
                                                                            PrimU PG (Instr.mapUpdate ty_map_int_bool (Value.map q44) (Value.int IntKind.i64 n34) (Value.bool true)) h41
                                                                              fun (h45 : Mem) => I38 h45)
                                                                  (fun (h46 : Mem) =>
                                                                    h46[Array.size h33]? = some (Obj.deferred (some [])) ∧
                                                                      Q (Array.setIfInBounds h46 (Array.size h33) (Obj.deferred none)))
                                                                  (fun (h49 : Mem) => False)
                                                                  (fun (h50 : Mem) =>
                                                                    h50[Array.size h33]? = some (Obj.deferred (some [])) ∧
                                                                      Q (Array.setIfInBounds h50 (Array.size h33) (Obj.deferred none)))
                                                                  1000000) ∧
                  St PG ty_sl_uint32 p8 (Value.slice w.a w.len w.cap) h2 fun (h53 : Mem) =>
                    (Ld PG ty_ptr_arena_Arena (Addr.mk k1 0 none) (Kd.one (Cmp.leaf Leaf.ptr)) h53 fun (q54 : Option Addr) => Value.pointer q54 = Value.pointer q7) ∧
                      (Ld PG ty_ptr_arena_Arena (Addr.mk k1 0 none) (Kd.one (Cmp.leaf Leaf.ptr)) h53 fun (q55 : Option Addr) => Value.pointer q55 = Value.pointer q6) ∧
                        (Ld PG ty_ptr_arena_Arena (Addr.mk k1 0 none) (Kd.one (Cmp.leaf Leaf.ptr)) h53 fun (q56 : Option Addr) => Value.pointer q56 = Value.pointer q5) ∧
                          (Ld PG ty_ptr_arena_Arena (Addr.mk k1 0 none) (Kd.one (Cmp.leaf Leaf.ptr)) h53 fun (q57 : Option Addr) => Value.pointer q57 = Value.pointer q4) ∧
                            Deref q4 fun (p58 : Addr) =>
                              (PrimT PG (Instr.makeMap ty_map_int_bool none) (Kd.one (Cmp.leaf Leaf.map)) h53 fun (q59 : Option Nat) (h60 : Mem) =>
                                  (Ld PG ty_ptr_arena_Arena (Addr.mk k1 0 none) (Kd.one (Cmp.leaf Leaf.ptr)) h60 fun (q61 : Option Addr) => Value.pointer q61 = Value.pointer q7) ∧
                                    (Ld PG ty_ptr_arena_Arena (Addr.mk k1 0 none) (Kd.one (Cmp.leaf Leaf.ptr)) h60 fun (q62 : Option Addr) => Value.pointer q62 = Value.pointer q6) ∧
                                      (Ld PG ty_ptr_arena_Arena (Addr.mk k1 0 none) (Kd.one (Cmp.leaf Leaf.ptr)) h60 fun (q63 : Option Addr) => Value.pointer q63 = Value.pointer q5) ∧
                                        (Ld PG ty_ptr_arena_Arena (Addr.mk k1 0 none) (Kd.one (Cmp.leaf Leaf.ptr)) h60 fun (q64 : Option Addr) => Value.pointer q64 = Value.pointer q4) ∧
                                          St PG ty_sl_int (p58.add 2) (Value.slice roots.a roots.len roots.cap) h60 fun (h65 : Mem) =>
                                            (Ld PG ty_ptr_arena_Arena (Addr.mk k1 0 none) (Kd.one (Cmp.leaf Leaf.ptr)) h65 fun (q66 : Option Addr) => Value.pointer q66 = Value.pointer q7) ∧
                                              (Ld PG ty_ptr_arena_Arena (Addr.mk k1 0 none) (Kd.one (Cmp.leaf Leaf.ptr)) h65 fun (q67 : Option Addr) =>
                                                  Value.pointer q67 = Value.pointer q6) ∧
                                                (Ld PG ty_ptr_arena_Arena (Addr.mk k1 0 none) (Kd.one (Cmp.leaf Leaf.ptr)) h65 fun (q68 : Option Addr) =>
                                                    Value.pointer q68 = Value.pointer q5) ∧
                                                  Deref q5 fun (p69 : Addr) =>
                                                    St PG ty_map_int_bool (p69.add 3) (Value.map q59) h65 fun (h70 : Mem) =>
                                                      (Ld PG ty_ptr_arena_Arena (Addr.mk k1 0 none) (Kd.one (Cmp.leaf Leaf.ptr)) h70 fun (q71 : Option Addr) =>
                                                          Value.pointer q71 = Value.pointer q7) ∧
                                                        (Ld PG ty_ptr_arena_Arena (Addr.mk k1 0 none) (Kd.one (Cmp.leaf Leaf.ptr)) h70 fun (q72 : Option Addr) =>
                                                            Value.pointer q72 = Value.pointer q6) ∧
                                                          Deref q6 fun (p73 : Addr) =>
                                                            St PG ty_func_int_bool (p73.add 4) (Value.func (Fn.func fn_arena_Arena_has) #[Value.pointer q7] #[]) h70 fun (h74 : Mem) =>
                                                              CallF PG fn_cells_All [Value.slice w.a w.len w.cap] (Kd.one (Cmp.leaf Leaf.raw)) h74 fun (v75 : Value) (h76 : Mem) =>
                                                                RangeFn PG v75 h76 [Cmp.leaf (Leaf.int IntKind.i64), Cmp.leaf (Leaf.int IntKind.u32)]
                                                                  (fun (n77 n78 : Int) (h79 : Mem) (I80 : Mem → (Mem → Prop) → Prop) (I81 I82 I83 : Mem → Prop) =>
                                                                    I80 h79 fun (h84 : Mem) =>
                                                                      Ld PG ty_ptr_arena_Arena (Addr.mk k1 0 none) (Kd.one (Cmp.leaf Leaf.ptr)) h84 fun (q85 : Option Addr) =>
                                                                        Deref q85 fun (p86 : Addr) =>
                                                                          Ld PG ty_map_int_bool (p86.add 3) (Kd.one (Cmp.leaf Leaf.map)) h84 fun (q87 : Option Nat) =>
                                                                            PrimU PG (Instr.mapUpdate ty_map_int_bool (Value.map q87) (Value.int IntKind.i64 n77) (Value.bool true)) h84
                                                                              fun (h88 : Mem) => I81 h88)
                                                                  (fun (h89 : Mem) =>
                                                                    h89[Array.size h76]? = some (Obj.deferred (some [])) ∧
                                                                      Q (Array.setIfInBounds h89 (Array.size h76) (Obj.deferred none)))
                                                                  (fun (h92 : Mem) => False)
                                                                  (fun (h93 : Mem) =>
                                                                    h93[Array.size h76]? = some (Obj.deferred (some [])) ∧
                                                                      Q (Array.setIfInBounds h93 (Array.size h76) (Obj.deferred none)))
                                                                  1000000) ∧
                                St PG ty_sl_int (p58.add 2) (Value.slice roots.a roots.len roots.cap) h53 fun (h96 : Mem) =>
                                  (Ld PG ty_ptr_arena_Arena (Addr.mk k1 0 none) (Kd.one (Cmp.leaf Leaf.ptr)) h96 fun (q97 : Option Addr) => Value.pointer q97 = Value.pointer q7) ∧
                                    (Ld PG ty_ptr_arena_Arena (Addr.mk k1 0 none) (Kd.one (Cmp.leaf Leaf.ptr)) h96 fun (q98 : Option Addr) => Value.pointer q98 = Value.pointer q6) ∧
                                      (Ld PG ty_ptr_arena_Arena (Addr.mk k1 0 none) (Kd.one (Cmp.leaf Leaf.ptr)) h96 fun (q99 : Option Addr) => Value.pointer q99 = Value.pointer q5) ∧
                                        PrimT PG (Instr.makeMap ty_map_int_bool none) (Kd.one (Cmp.leaf Leaf.map)) h96 fun (q100 : Option Nat) (h101 : Mem) =>
                                          (Ld PG ty_ptr_arena_Arena (Addr.mk k1 0 none) (Kd.one (Cmp.leaf Leaf.ptr)) h101 fun (q102 : Option Addr) => Value.pointer q102 = Value.pointer q7) ∧
                                            (Ld PG ty_ptr_arena_Arena (Addr.mk k1 0 none) (Kd.one (Cmp.leaf Leaf.ptr)) h101 fun (q103 : Option Addr) =>
                                                Value.pointer q103 = Value.pointer q6) ∧
                                              (Ld PG ty_ptr_arena_Arena (Addr.mk k1 0 none) (Kd.one (Cmp.leaf Leaf.ptr)) h101 fun (q104 : Option Addr) =>
                                                  Value.pointer q104 = Value.pointer q5) ∧
                                                Deref q5 fun (p105 : Addr) =>
                                                  St PG ty_map_int_bool (p105.add 3) (Value.map q100) h101 fun (h106 : Mem) =>
                                                    (Ld PG ty_ptr_arena_Arena (Addr.mk k1 0 none) (Kd.one (Cmp.leaf Leaf.ptr)) h106 fun (q107 : Option Addr) =>
                                                        Value.pointer q107 = Value.pointer q7) ∧
                                                      (Ld PG ty_ptr_arena_Arena (Addr.mk k1 0 none) (Kd.one (Cmp.leaf Leaf.ptr)) h106 fun (q108 : Option Addr) =>
                                                          Value.pointer q108 = Value.pointer q6) ∧
                                                        Deref q6 fun (p109 : Addr) =>
                                                          St PG ty_func_int_bool (p109.add 4) (Value.func (Fn.func fn_arena_Arena_has) #[Value.pointer q7] #[]) h106 fun (h110 : Mem) =>
                                                            CallF PG fn_cells_All [Value.slice w.a w.len w.cap] (Kd.one (Cmp.leaf Leaf.raw)) h110 fun (v111 : Value) (h112 : Mem) =>
                                                              RangeFn PG v111 h112 [Cmp.leaf (Leaf.int IntKind.i64), Cmp.leaf (Leaf.int IntKind.u32)]
                                                                (fun (n113 n114 : Int) (h115 : Mem) (I116 : Mem → (Mem → Prop) → Prop) (I117 I118 I119 : Mem → Prop) =>
                                                                  I116 h115 fun (h120 : Mem) =>
                                                                    Ld PG ty_ptr_arena_Arena (Addr.mk k1 0 none) (Kd.one (Cmp.leaf Leaf.ptr)) h120 fun (q121 : Option Addr) =>
                                                                      Deref q121 fun (p122 : Addr) =>
                                                                        Ld PG ty_map_int_bool (p122.add 3) (Kd.one (Cmp.leaf Leaf.map)) h120 fun (q123 : Option Nat) =>
                                                                          PrimU PG (Instr.mapUpdate ty_map_int_bool (Value.map q123) (Value.int IntKind.i64 n113) (Value.bool true)) h120
                                                                            fun (h124 : Mem) => I117 h124)
                                                                (fun (h125 : Mem) =>
                                                                  h125[Array.size h112]? = some (Obj.deferred (some [])) ∧
                                                                    Q (Array.setIfInBounds h125 (Array.size h112) (Obj.deferred none)))
                                                                (fun (h128 : Mem) => False)
                                                                (fun (h129 : Mem) =>
                                                                  h129[Array.size h112]? = some (Obj.deferred (some [])) ∧
                                                                    Q (Array.setIfInBounds h129 (Array.size h112) (Obj.deferred none)))
                                                                1000000
theorem eq_arena_Arena_fill (a : Option Addr) (w : Sl) (roots : Sl) (h : Mem) (Q : Mem → Prop) : wp_arena_Arena_fill a w roots h Q = evFn PG fn_arena_Arena_fill tab_arena_Arena_fill [.pointer a, .slice w.a w.len w.cap, .slice roots.a roots.len roots.cap] (.tup []) h Q := by kernel_rfl
theorem ok_arena_Arena_fill : okF PG fn_arena_Arena_fill tab_arena_Arena_fill = true := by kernel_rfl
theorem call_arena_Arena_fill {a : Option Addr} {w : Sl} {roots : Sl} {h : Mem} {Q : Mem → Prop} (hw' : wp_arena_Arena_fill a w roots h Q) : CallF PG fn_arena_Arena_fill [.pointer a, .slice w.a w.len w.cap, .slice roots.a roots.len roots.cap] (.tup []) h Q := callF_of PM ok_arena_Arena_fill (eq_arena_Arena_fill a w roots h Q ▸ hw')

/- 116: (*dunnage/arena.Arena).Make; loop 12: [] -/
def tab_arena_Arena_Make : Tab := ⟨[(12, ⟨[(68, .leaf (.int .i64))], [15, 69, 70, 71, 72, 73, 74, 75, 76, 77, 78, 79, 80, 81, 82, 83]⟩)], [], [(5, (chainT [(0, false), (1, false), (2, false)] (.join ⟨[(38, .leaf .bool)], [35, 36, 37]⟩ (chainT [(3, false), (4, false), (5, false), (6, false)] .nil) .nil)))]⟩
def wp_arena_Arena_Make (a : Option Addr) (kind : Int) (ptrs : Sl) (data : Sl) (h : Mem) (Q : Int → Int → Mem → Prop) : Prop :=
  New (Obj.cells #[Value.pointer a] ty_ptr_arena_Arena) h fun (k1 : Nat) (h2 : Mem) =>
    Ld PG ty_ptr_arena_Arena (Addr.mk k1 0 none) (Kd.one (Cmp.leaf Leaf.ptr)) h2 fun (q3 : Option Addr) =>
      Br
        (match q3 with
        | some p5 => false
        | none => true)
        (Q 0 2 h2)
        (CallF PG fn_cells_Head 
          [Value.int IntKind.i64 (IntKind.i64.wrap (IntKind.i64.wrap (1 + (↑ptrs.len : Int)) + (↑data.len : Int))), Value.int IntKind.i64 (↑ptrs.len : Int),
            Value.int IntKind.i64 kind]
          (Kd.tup [Cmp.leaf (Leaf.int IntKind.u32), Cmp.leaf (Leaf.int IntKind.i64)]) h2 fun (n7 n8 : Int) (h9 : Mem) =>
          ∃ (I10 : Bool → Mem → Prop),
            (∀ (j11 : Fr) (b12 : Bool) (h13 : Mem),
                I10 b12 h13 →
                  Br b12 (Q 0 1 h13)
                    (Ld PG ty_ptr_arena_Arena (Addr.mk k1 0 none) (Kd.one (Cmp.leaf Leaf.ptr)) h13 fun (q14 : Option Addr) =>
                      Deref q14 fun (p15 : Addr) =>
                        Ld PG ty_int (p15.add 1) (Kd.one (Cmp.leaf (Leaf.int IntKind.i64))) h13 fun (n16 : Int) =>
                          Ld PG ty_ptr_arena_Arena (Addr.mk k1 0 none) (Kd.one (Cmp.leaf Leaf.ptr)) h13 fun (q17 : Option Addr) =>
                            Deref q17 fun (p18 : Addr) =>
                              Ld PG ty_sl_uint32 p18 (Kd.one (Cmp.leaf Leaf.sl)) h13 fun (s19 : Sl) =>
                                Br (decide (IntKind.i64.wrap (IntKind.i64.wrap (1 + (↑ptrs.len : Int)) + (↑data.len : Int)) > IntKind.i64.wrap (n16 - (↑s19.len : Int)))) (Q 0 3 h13)
                                  (Ld PG ty_ptr_arena_Arena (Addr.mk k1 0 none) (Kd.one (Cmp.leaf Leaf.ptr)) h13 fun (q20 : Option Addr) =>
                                    Deref q20 fun (p21 : Addr) =>
                                      Ld PG ty_sl_uint32 p21 (Kd.one (Cmp.leaf Leaf.sl)) h13 fun (s22 : Sl) =>
                                        Ld PG ty_ptr_arena_Arena (Addr.mk k1 0 none) (Kd.one (Cmp.leaf Leaf.ptr)) h13 fun (q23 : Option Addr) =>
                                          Ld PG ty_ptr_arena_Arena (Addr.mk k1 0 none) (Kd.one (Cmp.leaf Leaf.ptr)) h13 fun (q24 : Option Addr) =>
                                            Deref q24 fun (p25 : Addr) =>
                                              Ld PG ty_sl_uint32 p25 (Kd.one (Cmp.leaf Leaf.sl)) h13 fun (s26 : Sl) =>
                                                New (Obj.cells #[Value.int IntKind.u32 n7] ty_uint32) h13 fun (k27 : Nat) (h28 : Mem) =>
                                                  (Ld PG ty_sl_uint32 p25 (Kd.one (Cmp.leaf Leaf.sl)) h28 fun (s29 : Sl) =>
                                                      Value.slice s29.a s29.len s29.cap = Value.slice s26.a s26.len s26.cap) ∧
                                                    (Ld PG ty_ptr_arena_Arena (Addr.mk k1 0 none) (Kd.one (Cmp.leaf Leaf.ptr)) h28 fun (q30 : Option Addr) =>
                                                        Value.pointer q30 = Value.pointer q24) ∧
                                                      (Ld PG ty_ptr_arena_Arena (Addr.mk k1 0 none) (Kd.one (Cmp.leaf Leaf.ptr)) h28 fun (q31 : Option Addr) =>
                                                          Value.pointer q31 = Value.pointer q23) ∧
                                                        PrimT PG
                                                          (Builtin.append_ #[ty_sl_uint32, ty_sl_uint32] ty_sl_uint32 #[Value.slice s26.a s26.len s26.cap, Value.slice (some (Addr.mk k27 0 none)) 1 1])
                                                          (Kd.one (Cmp.leaf Leaf.sl)) h28 fun (s32 : Sl) (h33 : Mem) =>
                                                          (Ld PG ty_ptr_arena_Arena (Addr.mk k1 0 none) (Kd.one (Cmp.leaf Leaf.ptr)) h33 fun (q34 : Option Addr) =>
                                                              Value.pointer q34 = Value.pointer q23) ∧
                                                            Deref q23 fun (p35 : Addr) =>
                                                              St PG ty_sl_uint32 p35 (Value.slice s32.a s32.len s32.cap) h33 fun (h36 : Mem) =>
                                                                ∃ (I37 : Int → Mem → Prop),
                                                                  ∃ (I38 : Int → Mem → Nat),
                                                                    I37 0 h36 ∧
                                                                      ∀ (j39 : Fr) (n40 : Int) (h41 : Mem),
                                                                        I37 n40 h41 →
                                                                          Br (decide (n40 < (↑ptrs.len : Int)))
                                                                            (Idx ptrs.a ptrs.len n40 fun (p42 : Addr) =>
                                                                              Ld PG ty_int (p42.add (n40.toNat * 1)) (Kd.one (Cmp.leaf (Leaf.int IntKind.i64))) h41
                                                                                fun (n43 : Int) =>
                                                                                Ld PG ty_ptr_arena_Arena (Addr.mk k1 0 none) (Kd.one (Cmp.leaf Leaf.ptr)) h41 fun (q44 : Option Addr) =>
                                                                                  Ld PG ty_ptr_arena_Arena (Addr.mk k1 0 none) (Kd.one (Cmp.leaf Leaf.ptr)) h41 fun (q45 : Option Addr) =>
                                                                                    Deref q45 fun (p46 : Addr) =>
                                                                                      Ld PG ty_sl_uint32 p46 (Kd.one (Cmp.leaf Leaf.sl)) h41 fun (s47 : Sl) =>
                                                                                        New (Obj.cells #[Value.int IntKind.u32 (IntKind.u32.wrap n43)] ty_uint32) h41
                                                                                          fun (k48 : Nat) (h49 : Mem) =>
                                                                                          (Ld PG ty_sl_uint32 p46 (Kd.one (Cmp.leaf Leaf.sl)) h49 fun (s50 : Sl) =>
                                                                                              Value.slice s50.a s50.len s50.cap = Value.slice s47.a s47.len s47.cap) ∧
                                                                                            (Ld PG ty_ptr_arena_Arena (Addr.mk k1 0 none) (Kd.one (Cmp.leaf Leaf.ptr)) h49
                                                                                                fun (q51 : Option Addr) => Value.pointer q51 = Value.pointer q45) ∧
                                                                                              (Ld PG ty_ptr_arena_Arena (Addr.mk k1 0 none) (Kd.one (Cmp.leaf Leaf.ptr)) h49
                                                                                                  fun (q52 : Option Addr) => Value.pointer q52 = Value.pointer q44) ∧
                                                                                                PrimT PG
                                                                                                  (Builtin.append_ #[ty_sl_uint32, ty_sl_uint32] ty_sl_uint32
                                                                                                    #[Value.slice s47.a s47.len s47.cap, Value.slice (some (Addr.mk k48 0 none)) 1 1])
                                                                                                  (Kd.one (Cmp.leaf Leaf.sl)) h49 fun (s53 : Sl) (h54 : Mem) =>
                                                                                                  (Ld PG ty_ptr_arena_Arena (Addr.mk k1 0 none) (Kd.one (Cmp.leaf Leaf.ptr)) h54
                                                                                                      fun (q55 : Option Addr) => Value.pointer q55 = Value.pointer q44) ∧
                                                                                                    Deref q44 fun (p56 : Addr) =>
                                                                                                      St PG ty_sl_uint32 p56 (Value.slice s53.a s53.len s53.cap) h54 fun (h57 : Mem) =>
                                                                                                        I37 (IntKind.i64.wrap (n40 + 1)) h57 ∧
                                                                                                          I38 (IntKind.i64.wrap (n40 + 1)) h57 < I38 n40 h41)
                                                                            (Ld PG ty_ptr_arena_Arena (Addr.mk k1 0 none) (Kd.one (Cmp.leaf Leaf.ptr)) h41 fun (q58 : Option Addr) =>
                                                                              Ld PG ty_ptr_arena_Arena (Addr.mk k1 0 none) (Kd.one (Cmp.leaf Leaf.ptr)) h41 fun (q59 : Option Addr) =>
                                                                                Deref q59 fun (p60 : Addr) =>
                                                                                  Ld PG ty_sl_uint32 p60 (Kd.one (Cmp.leaf Leaf.sl)) h41 fun (s61 : Sl) =>
                                                                                    PrimT PG
                                                                                      (Builtin.append_ #[ty_sl_uint32, ty_sl_uint32] ty_sl_uint32
                                                                                        #[Value.slice s61.a s61.len s61.cap, Value.slice data.a data.len data.cap])
                                                                                      (Kd.one (Cmp.leaf Leaf.sl)) h41 fun (s62 : Sl) (h63 : Mem) =>
                                                                                      (Ld PG ty_ptr_arena_Arena (Addr.mk k1 0 none) (Kd.one (Cmp.leaf Leaf.ptr)) h63
                                                                                          fun (q64 : Option Addr) => Value.pointer q64 = Value.pointer q58) ∧
                                                                                        Deref q58 fun (p65 : Addr) =>
                                                                                          St PG ty_sl_uint32 p65 (Value.slice s62.a s62.len s62.cap) h63 fun (h66 : Mem) =>
                                                                                            Ld PG ty_ptr_arena_Arena (Addr.mk k1 0 none) (Kd.one (Cmp.leaf Leaf.ptr)) h66
                                                                                              fun (q67 : Option Addr) =>
                                                                                              Deref q67 fun (p68 : Addr) =>
                                                                                                Ld PG ty_map_int_bool (p68.add 3) (Kd.one (Cmp.leaf Leaf.map)) h66
                                                                                                  fun (q69 : Option Nat) =>
                                                                                                  PrimU PG
                                                                                                    (Instr.mapUpdate ty_map_int_bool (Value.map q69) (Value.int IntKind.i64 (↑s22.len : Int))
                                                                                                      (Value.bool true))
                                                                                                    h66 fun (h70 : Mem) => Q (↑s22.len : Int) 0 h70)))) ∧
              Br (n8 != 0) (I10 true h9)
                (CallF PG fn_slices_ContainsFunc_int_int_ [Value.slice ptrs.a ptrs.len ptrs.cap, Value.func (Fn.func fn_arena_Arena_Make_1) #[] #[Value.pointer (some (Addr.mk k1 0 none))]] (Kd.one (Cmp.leaf Leaf.bool)) h9
                  fun (b71 : Bool) (h72 : Mem) => I10 b71 h72))
theorem eq_arena_Arena_Make (a : Option Addr) (kind : Int) (ptrs : Sl) (data : Sl) (h : Mem) (Q : Int → Int → Mem → Prop) : wp_arena_Arena_Make a kind ptrs data h Q = evFn PG fn_arena_Arena_Make tab_arena_Arena_Make [.pointer a, .int .i64 kind, .slice ptrs.a ptrs.len ptrs.cap, .slice data.a data.len data.cap] (.tup [(.leaf (.int .i64)), (.leaf (.int .i64))]) h Q := by kernel_rfl
theorem ok_arena_Arena_Make : okF PG fn_arena_Arena_Make tab_arena_Arena_Make = true := by kernel_rfl
theorem call_arena_Arena_Make {a : Option Addr} {kind : Int} {ptrs : Sl} {data : Sl} {h : Mem} {Q : Int → Int → Mem → Prop} (hw' : wp_arena_Arena_Make a kind ptrs data h Q) : CallF PG fn_arena_Arena_Make [.pointer a, .int .i64 kind, .slice ptrs.a ptrs.len ptrs.cap, .slice data.a data.len data.cap] (.tup [(.leaf (.int .i64)), (.leaf (.int .i64))]) h Q := callF_of PM ok_arena_Arena_Make (eq_arena_Arena_Make a kind ptrs data h Q ▸ hw')

/- 132: slices.Clone[[]uint32,uint32] -/
def tab_slices_Clone_uint32_uint32_ : Tab := ⟨[], [], []⟩
def wp_slices_Clone_uint32_uint32_ (s : Sl) (h : Mem) (Q : Sl → Mem → Prop) : Prop :=
  Br
    (match s.a with
    | some p2 => false
    | none => true)
    (Q (Sl.mk none 0 0) h)
    (New (Obj.cells #[] ty_uint32) h fun (k4 : Nat) (h5 : Mem) =>
      PrimT PG (Builtin.append_ #[ty_sl_uint32, ty_sl_uint32] ty_sl_uint32 #[Value.slice (some (Addr.mk k4 0 none)) 0 0, Value.slice s.a s.len s.cap]) (Kd.one (Cmp.leaf Leaf.sl)) h5
        fun (s6 : Sl) (h7 : Mem) => Q (Sl.mk s6.a s6.len s6.cap) h7)
theorem eq_slices_Clone_uint32_uint32_ (s : Sl) (h : Mem) (Q : Sl → Mem → Prop) : wp_slices_Clone_uint32_uint32_ s h Q = evFn PG fn_slices_Clone_uint32_uint32_ tab_slices_Clone_uint32_uint32_ [.slice s.a s.len s.cap] (.one (.leaf .sl)) h Q := by kernel_rfl
theorem ok_slices_Clone_uint32_uint32_ : okF PG fn_slices_Clone_uint32_uint32_ tab_slices_Clone_uint32_uint32_ = true := by kernel_rfl
theorem call_slices_Clone_uint32_uint32_ {s : Sl} {h : Mem} {Q : Sl → Mem → Prop} (hw' : wp_slices_Clone_uint32_uint32_ s h Q) : CallF PG fn_slices_Clone_uint32_uint32_ [.slice s.a s.len s.cap] (.one (.leaf .sl)) h Q := callF_of PM ok_slices_Clone_uint32_uint32_ (eq_slices_Clone_uint32_uint32_ s h Q ▸ hw')

/- 133: (*dunnage/arena.Arena).All$1; range 3: [, ] -/
def tab_arena_Arena_All_1 : Tab := ⟨[(3, ⟨[(6, .leaf (.int .i64)), (7, .leaf (.int .u32))], []⟩)], [], []⟩
def wp_arena_Arena_All_1 (yield : Value) (a1 : Option Addr) (h : Mem) (Q : Mem → Prop) : Prop :=
  New
    (Obj.cells
      (match yield with
        | Value.agg h2 => h2.toList
        | v3 => [v3]).toArray
      197)
    h fun (k4 : Nat) (h5 : Mem) =>
    Deref a1 fun (p6 : Addr) =>
      Ld PG ty_sl_uint32 p6 (Kd.one (Cmp.leaf Leaf.sl)) h5 fun (s7 : Sl) =>
        CallF PG fn_cells_All [Value.slice s7.a s7.len s7.cap] (Kd.one (Cmp.leaf Leaf.raw)) h5 fun (v8 : Value) (h9 : Mem) =>
          RangeFn PG v8 h9 [Cmp.leaf (Leaf.int IntKind.i64), Cmp.leaf (Leaf.int IntKind.u32)]
            (fun (n10 n11 : Int) (h12 : Mem) (I13 : Mem → (Mem → Prop) → Prop) (I14 I15 I16 : Mem → Prop) =>
              I13 h12 fun (h17 : Mem) =>
                Ld PG ty_func_int_api_Object_bool (Addr.mk k4 0 none) (Kd.one (Cmp.leaf Leaf.raw)) h17 fun (v18 : Value) =>
                  Deref a1 fun (p19 : Addr) =>
                    Ld PG ty_sl_uint32 p19 (Kd.one (Cmp.leaf Leaf.sl)) h17 fun (s20 : Sl) =>
                      CallF PG fn_arena_object [Value.slice s20.a s20.len s20.cap, Value.int IntKind.i64 n10] (Kd.one (Cmp.agg [Leaf.int IntKind.i64, Leaf.sl, Leaf.sl])) h17
                        fun (n21 : Int) (s22 s23 : Sl) (h24 : Mem) =>
                        (Ld PG ty_func_int_api_Object_bool (Addr.mk k4 0 none) (Kd.one (Cmp.leaf Leaf.raw)) h24 fun (v25 : Value) => v25 = v18) ∧
                          CallV PG v18
                            [Value.int IntKind.i64 n10, Value.agg #[Value.int IntKind.i64 n21, Value.slice s22.a s22.len s22.cap, Value.slice s23.a s23.len s23.cap]]
                            (Kd.one (Cmp.leaf Leaf.bool)) h24 fun (b26 : Bool) (h27 : Mem) => Br (!b26) (I16 h27) (I14 h27))
            (fun (h28 : Mem) => h28[Array.size h9]? = some (Obj.deferred (some [])) ∧ Q (Array.setIfInBounds h28 (Array.size h9) (Obj.deferred none))) (fun (h31 : Mem) => False)
            (fun (h32 : Mem) => h32[Array.size h9]? = some (Obj.deferred (some [])) ∧ Q (Array.setIfInBounds h32 (Array.size h9) (Obj.deferred none))) 1000000
theorem eq_arena_Arena_All_1 (yield : Value) (a1 : Option Addr) (h : Mem) (Q : Mem → Prop) : wp_arena_Arena_All_1 yield a1 h Q = evFn PG fn_arena_Arena_All_1 tab_arena_Arena_All_1 [yield, .pointer a1] (.tup []) h Q := by kernel_rfl
theorem ok_arena_Arena_All_1 : okF PG fn_arena_Arena_All_1 tab_arena_Arena_All_1 = true := by kernel_rfl
theorem call_arena_Arena_All_1 {yield : Value} {a1 : Option Addr} {h : Mem} {Q : Mem → Prop} (hw' : wp_arena_Arena_All_1 yield a1 h Q) : CallF PG fn_arena_Arena_All_1 [yield, .pointer a1] (.tup []) h Q := callF_of PM ok_arena_Arena_All_1 (eq_arena_Arena_All_1 yield a1 h Q ▸ hw')

/- 134: dunnage/cells.All -/
def tab_cells_All : Tab := ⟨[], [], []⟩
def wp_cells_All (w : Sl) (h : Mem) (Q : Value → Mem → Prop) : Prop :=
  CallF PG fn_slices_Clone_uint32_uint32_ [Value.slice w.a w.len w.cap] (Kd.one (Cmp.leaf Leaf.sl)) h fun (s1 : Sl) (h2 : Mem) =>
    New (Obj.cells #[Value.slice none 0 0] ty_sl_uint32) h2 fun (k3 : Nat) (h4 : Mem) =>
      St PG ty_sl_uint32 (Addr.mk k3 0 none) (Value.slice s1.a s1.len s1.cap) h4 fun (h5 : Mem) => Q (Value.func (Fn.func fn_cells_All_1) #[] #[Value.pointer (some (Addr.mk k3 0 none))]) h5
theorem eq_cells_All (w : Sl) (h : Mem) (Q : Value → Mem → Prop) : wp_cells_All w h Q = evFn PG fn_cells_All tab_cells_All [.slice w.a w.len w.cap] (.one (.leaf .raw)) h Q := by kernel_rfl
theorem ok_cells_All : okF PG fn_cells_All tab_cells_All = true := by kernel_rfl
theorem call_cells_All {w : Sl} {h : Mem} {Q : Value → Mem → Prop} (hw' : wp_cells_All w h Q) : CallF PG fn_cells_All [.slice w.a w.len w.cap] (.one (.leaf .raw)) h Q := callF_of PM ok_cells_All (eq_cells_All w h Q ▸ hw')

/- 135: dunnage/arena.object; loop 5: [] -/
def tab_arena_object : Tab := ⟨[(5, ⟨[(36, .leaf (.int .i64))], [9, 37, 38, 39, 40, 41, 42, 43, 44, 45, 46, 47]⟩)], [], []⟩
def wp_arena_object (w : Sl) (at' : Int) (h : Mem) (Q : Int → Sl → Sl → Mem → Prop) : Prop :=
  New (Obj.cells #[Value.int IntKind.i64 0, Value.slice none 0 0, Value.slice none 0 0] ty_api_Object) h fun (k1 : Nat) (h2 : Mem) =>
    Idx w.a w.len at' fun (p3 : Addr) =>
      Ld PG ty_uint32 (p3.add (at'.toNat * 1)) (Kd.one (Cmp.leaf (Leaf.int IntKind.u32))) h2 fun (n4 : Int) =>
        CallF PG fn_cells_Ptrs [Value.int IntKind.u32 n4] (Kd.one (Cmp.leaf (Leaf.int IntKind.i64))) h2 fun (n5 : Int) (h6 : Mem) =>
          CallF PG fn_cells_Kind [Value.int IntKind.u32 n4] (Kd.one (Cmp.leaf (Leaf.int IntKind.i64))) h6 fun (n7 : Int) (h8 : Mem) =>
            CallF PG fn_cells_Size [Value.int IntKind.u32 n4] (Kd.one (Cmp.leaf (Leaf.int IntKind.i64))) h8 fun (n9 : Int) (h10 : Mem) =>
              Cut 1 w.a w.len w.cap (some (IntKind.i64.wrap (IntKind.i64.wrap (at' + 1) + n5))) (some (IntKind.i64.wrap (at' + n9))) none fun (s11 : Sl) =>
                CallF PG fn_slices_Clone_uint32_uint32_ [Value.slice s11.a s11.len s11.cap] (Kd.one (Cmp.leaf Leaf.sl)) h10 fun (s12 : Sl) (h13 : Mem) =>
                  New (Obj.cells #[Value.int IntKind.i64 0, Value.slice none 0 0, Value.slice none 0 0] ty_api_Object) h13 fun (k14 : Nat) (h15 : Mem) =>
                    St PG ty_api_Object (Addr.mk k14 0 none) (Value.agg #[Value.int IntKind.i64 n7, Value.slice none 0 0, Value.slice s12.a s12.len s12.cap]) h15 fun (h16 : Mem) =>
                      Cut 1 w.a w.len w.cap (some (IntKind.i64.wrap (at' + 1))) (some (IntKind.i64.wrap (IntKind.i64.wrap (at' + 1) + n5))) none fun (s17 : Sl) =>
                        ∃ (I18 : Int → Mem → Prop),
                          ∃ (I19 : Int → Mem → Nat),
                            I18 0 h16 ∧
                              ∀ (j20 : Fr) (n21 : Int) (h22 : Mem),
                                I18 n21 h22 →
                                  Br (decide (n21 < (↑s17.len : Int)))
                                    (Idx s17.a s17.len n21 fun (p23 : Addr) =>
                                      Ld PG ty_uint32 (p23.add (n21.toNat * 1)) (Kd.one (Cmp.leaf (Leaf.int IntKind.u32))) h22 fun (n24 : Int) =>
                                        Ld PG ty_sl_int ((Addr.mk k14 0 none).add 1) (Kd.one (Cmp.leaf Leaf.sl)) h22 fun (s25 : Sl) =>
                                          New (Obj.cells #[Value.int IntKind.i64 (IntKind.i64.wrap n24)] ty_int) h22 fun (k26 : Nat) (h27 : Mem) =>
                                            PrimT PG (Builtin.append_ #[ty_sl_int, ty_sl_int] ty_sl_int #[Value.slice s25.a s25.len s25.cap, Value.slice (some (Addr.mk k26 0 none)) 1 1])
                                              (Kd.one (Cmp.leaf Leaf.sl)) h27 fun (s28 : Sl) (h29 : Mem) =>
                                              St PG ty_sl_int ((Addr.mk k14 0 none).add 1) (Value.slice s28.a s28.len s28.cap) h29 fun (h30 : Mem) =>
                                                I18 (IntKind.i64.wrap (n21 + 1)) h30 ∧ I19 (IntKind.i64.wrap (n21 + 1)) h30 < I19 n21 h22)
                                    (Ld PG ty_api_Object (Addr.mk k14 0 none) (Kd.one (Cmp.agg [Leaf.int IntKind.i64, Leaf.sl, Leaf.sl])) h22 fun (n31 : Int) (s32 s33 : Sl) =>
                                      St PG ty_api_Object (Addr.mk k1 0 none)
                                        (Value.agg #[Value.int IntKind.i64 n31, Value.slice s32.a s32.len s32.cap, Value.slice s33.a s33.len s33.cap]) h22 fun (h34 : Mem) =>
                                        Ld PG ty_api_Object (Addr.mk k1 0 none) (Kd.one (Cmp.agg [Leaf.int IntKind.i64, Leaf.sl, Leaf.sl])) h34 fun (n35 : Int) (s36 s37 : Sl) =>
                                          Q n35 (Sl.mk s36.a s36.len s36.cap) (Sl.mk s37.a s37.len s37.cap) h34)
theorem eq_arena_object (w : Sl) (at' : Int) (h : Mem) (Q : Int → Sl → Sl → Mem → Prop) : wp_arena_object w at' h Q = evFn PG fn_arena_object tab_arena_object [.slice w.a w.len w.cap, .int .i64 at'] (.one (.agg [(.int .i64), .sl, .sl])) h Q := by kernel_rfl
theorem ok_arena_object : okF PG fn_arena_object tab_arena_object = true := by kernel_rfl
theorem call_arena_object {w : Sl} {at' : Int} {h : Mem} {Q : Int → Sl → Sl → Mem → Prop} (hw' : wp_arena_object w at' h Q) : CallF PG fn_arena_object [.slice w.a w.len w.cap, .int .i64 at'] (.one (.agg [(.int .i64), .sl, .sl])) h Q := callF_of PM ok_arena_object (eq_arena_object w at' h Q ▸ hw')

/- 136: dunnage/cells.Ptrs -/
def tab_cells_Ptrs : Tab := ⟨[], [], []⟩
def wp_cells_Ptrs (h' : Int) (h : Mem) (Q : Int → Mem → Prop) : Prop :=
  Q (IntKind.i64.wrap ((IntKind.u32.wrap (h'.tdiv 16)).tmod 256)) h
theorem eq_cells_Ptrs (h' : Int) (h : Mem) (Q : Int → Mem → Prop) : wp_cells_Ptrs h' h Q = evFn PG fn_cells_Ptrs tab_cells_Ptrs [.int .u32 h'] (.one (.leaf (.int .i64))) h Q := by kernel_rfl
theorem ok_cells_Ptrs : okF PG fn_cells_Ptrs tab_cells_Ptrs = true := by kernel_rfl
theorem call_cells_Ptrs {h' : Int} {h : Mem} {Q : Int → Mem → Prop} (hw' : wp_cells_Ptrs h' h Q) : CallF PG fn_cells_Ptrs [.int .u32 h'] (.one (.leaf (.int .i64))) h Q := callF_of PM ok_cells_Ptrs (eq_cells_Ptrs h' h Q ▸ hw')

/- 137: dunnage/cells.Size -/
def tab_cells_Size : Tab := ⟨[], [], []⟩
def wp_cells_Size (h' : Int) (h : Mem) (Q : Int → Mem → Prop) : Prop :=
  Q (IntKind.i64.wrap (IntKind.u32.wrap (h'.tdiv 4096))) h
theorem eq_cells_Size (h' : Int) (h : Mem) (Q : Int → Mem → Prop) : wp_cells_Size h' h Q = evFn PG fn_cells_Size tab_cells_Size [.int .u32 h'] (.one (.leaf (.int .i64))) h Q := by kernel_rfl
theorem ok_cells_Size : okF PG fn_cells_Size tab_cells_Size = true := by kernel_rfl
theorem call_cells_Size {h' : Int} {h : Mem} {Q : Int → Mem → Prop} (hw' : wp_cells_Size h' h Q) : CallF PG fn_cells_Size [.int .u32 h'] (.one (.leaf (.int .i64))) h Q := callF_of PM ok_cells_Size (eq_cells_Size h' h Q ▸ hw')

/- 150: (*dunnage/arena.Arena).has -/
def tab_arena_Arena_has : Tab := ⟨[], [], []⟩
def wp_arena_Arena_has (a : Option Addr) (at' : Int) (h : Mem) (Q : Bool → Mem → Prop) : Prop :=
  Deref a fun (p1 : Addr) =>
    Ld PG ty_map_int_bool (p1.add 3) (Kd.one (Cmp.leaf Leaf.map)) h fun (q2 : Option Nat) =>
      ReadT PG (Instr.lookup ty_map_int_bool (Value.map q2) (Value.int IntKind.i64 at') false) (Kd.one (Cmp.leaf Leaf.bool)) h fun (b3 : Bool) => Q b3 h
theorem eq_arena_Arena_has (a : Option Addr) (at' : Int) (h : Mem) (Q : Bool → Mem → Prop) : wp_arena_Arena_has a at' h Q = evFn PG fn_arena_Arena_has tab_arena_Arena_has [.pointer a, .int .i64 at'] (.one (.leaf .bool)) h Q := by kernel_rfl
theorem ok_arena_Arena_has : okF PG fn_arena_Arena_has tab_arena_Arena_has = true := by kernel_rfl
theorem call_arena_Arena_has {a : Option Addr} {at' : Int} {h : Mem} {Q : Bool → Mem → Prop} (hw' : wp_arena_Arena_has a at' h Q) : CallF PG fn_arena_Arena_has [.pointer a, .int .i64 at'] (.one (.leaf .bool)) h Q := callF_of PM ok_arena_Arena_has (eq_arena_Arena_has a at' h Q ▸ hw')

/- 157: dunnage/cells.Head -/
def tab_cells_Head : Tab := ⟨[], [], [(1, (chainT [(0, false), (1, false), (2, false)] (.join ⟨[(13, .leaf .bool)], [11, 12]⟩ (chainT [(3, false), (4, false), (5, false)] .nil) (chainT [(6, false), (7, false), (8, false), (9, false), (10, false), (11, false), (12, false), (13, false), (14, false), (15, false), (16, false), (17, false), (18, false), (19, false), (20, false), (21, false), (22, false)] .nil))))]⟩
def wp_cells_Head (size : Int) (ptrs : Int) (kind : Int) (h : Mem) (Q : Int → Int → Mem → Prop) : Prop :=
  ∃ (I1 : Bool → Mem → Prop),
    (∀ (j2 : Fr) (b3 : Bool) (h4 : Mem),
        I1 b3 h4 →
          Br b3 (Q 0 1 h4)
            (Br (decide (kind < 0)) (Q 0 1 h4)
              (Br (decide (kind ≥ 16)) (Q 0 1 h4)
                (Br (decide (size ≤ ptrs)) (Q 0 1 h4)
                  (Br (decide (size ≥ 1048576)) (Q 0 1 h4)
                    (Q (IntKind.u32.wrap (IntKind.i64.wrap (IntKind.i64.wrap (IntKind.i64.wrap (size * 4096) + IntKind.i64.wrap (ptrs * 16)) + IntKind.i64.wrap (kind * 1)))) 0
                      h4)))))) ∧
      Br (decide (ptrs < 0)) (I1 true h) (I1 (decide (ptrs > 255)) h)
theorem eq_cells_Head (size : Int) (ptrs : Int) (kind : Int) (h : Mem) (Q : Int → Int → Mem → Prop) : wp_cells_Head size ptrs kind h Q = evFn PG fn_cells_Head tab_cells_Head [.int .i64 size, .int .i64 ptrs, .int .i64 kind] (.tup [(.leaf (.int .u32)), (.leaf (.int .i64))]) h Q := by kernel_rfl
theorem ok_cells_Head : okF PG fn_cells_Head tab_cells_Head = true := by kernel_rfl
theorem call_cells_Head {size : Int} {ptrs : Int} {kind : Int} {h : Mem} {Q : Int → Int → Mem → Prop} (hw' : wp_cells_Head size ptrs kind h Q) : CallF PG fn_cells_Head [.int .i64 size, .int .i64 ptrs, .int .i64 kind] (.tup [(.leaf (.int .u32)), (.leaf (.int .i64))]) h Q := callF_of PM ok_cells_Head (eq_cells_Head size ptrs kind h Q ▸ hw')

/- 158: slices.ContainsFunc[[]int,int] -/
def tab_slices_ContainsFunc_int_int_ : Tab := ⟨[], [], []⟩
def wp_slices_ContainsFunc_int_int_ (s : Sl) (f : Value) (h : Mem) (Q : Bool → Mem → Prop) : Prop :=
  CallF PG fn_slices_IndexFunc_int_int_ [Value.slice s.a s.len s.cap, f] (Kd.one (Cmp.leaf (Leaf.int IntKind.i64))) h fun (n1 : Int) (h2 : Mem) => Q (decide (n1 ≥ 0)) h2
theorem eq_slices_ContainsFunc_int_int_ (s : Sl) (f : Value) (h : Mem) (Q : Bool → Mem → Prop) : wp_slices_ContainsFunc_int_int_ s f h Q = evFn PG fn_slices_ContainsFunc_int_int_ tab_slices_ContainsFunc_int_int_ [.slice s.a s.len s.cap, f] (.one (.leaf .bool)) h Q := by kernel_rfl
theorem ok_slices_ContainsFunc_int_int_ : okF PG fn_slices_ContainsFunc_int_int_ tab_slices_ContainsFunc_int_int_ = true := by kernel_rfl
theorem call_slices_ContainsFunc_int_int_ {s : Sl} {f : Value} {h : Mem} {Q : Bool → Mem → Prop} (hw' : wp_slices_ContainsFunc_int_int_ s f h Q) : CallF PG fn_slices_ContainsFunc_int_int_ [.slice s.a s.len s.cap, f] (.one (.leaf .bool)) h Q := callF_of PM ok_slices_ContainsFunc_int_int_ (eq_slices_ContainsFunc_int_int_ s f h Q ▸ hw')

/- 159: (*dunnage/arena.Arena).Make$1 -/
def tab_arena_Arena_Make_1 : Tab := ⟨[], [], []⟩
def wp_arena_Arena_Make_1 (p : Int) (a1 : Option Addr) (h : Mem) (Q : Bool → Mem → Prop) : Prop :=
  Br (p != 0)
    (Deref a1 fun (p1 : Addr) =>
      Ld PG ty_ptr_arena_Arena p1 (Kd.one (Cmp.leaf Leaf.ptr)) h fun (q2 : Option Addr) =>
        Deref q2 fun (p3 : Addr) =>
          Ld PG ty_func_int_bool (p3.add 4) (Kd.one (Cmp.leaf Leaf.raw)) h fun (v4 : Value) =>
            CallV PG v4 [Value.int IntKind.i64 p] (Kd.one (Cmp.leaf Leaf.bool)) h fun (b5 : Bool) (h6 : Mem) => Q (!b5) h6)
    (Q false h)
theorem eq_arena_Arena_Make_1 (p : Int) (a1 : Option Addr) (h : Mem) (Q : Bool → Mem → Prop) : wp_arena_Arena_Make_1 p a1 h Q = evFn PG fn_arena_Arena_Make_1 tab_arena_Arena_Make_1 [.int .i64 p, .pointer a1] (.one (.leaf .bool)) h Q := by kernel_rfl
theorem ok_arena_Arena_Make_1 : okF PG fn_arena_Arena_Make_1 tab_arena_Arena_Make_1 = true := by kernel_rfl
theorem call_arena_Arena_Make_1 {p : Int} {a1 : Option Addr} {h : Mem} {Q : Bool → Mem → Prop} (hw' : wp_arena_Arena_Make_1 p a1 h Q) : CallF PG fn_arena_Arena_Make_1 [.int .i64 p, .pointer a1] (.one (.leaf .bool)) h Q := callF_of PM ok_arena_Arena_Make_1 (eq_arena_Arena_Make_1 p a1 h Q ▸ hw')

/- 176: dunnage/cells.All$1 -/
def tab_cells_All_1 : Tab := ⟨[], [], []⟩
def wp_cells_All_1 (yield : Value) (a1 : Option Addr) (h : Mem) (Q : Mem → Prop) : Prop :=
  Deref a1 fun (p1 : Addr) =>
    Ld PG ty_sl_uint32 p1 (Kd.one (Cmp.leaf Leaf.sl)) h fun (s2 : Sl) =>
      CallF PG fn_cells_each [Value.slice s2.a s2.len s2.cap, yield] (Kd.one (Cmp.leaf Leaf.bool)) h fun (b3 : Bool) (h4 : Mem) => Q h4
theorem eq_cells_All_1 (yield : Value) (a1 : Option Addr) (h : Mem) (Q : Mem → Prop) : wp_cells_All_1 yield a1 h Q = evFn PG fn_cells_All_1 tab_cells_All_1 [yield, .pointer a1] (.tup []) h Q := by kernel_rfl
theorem ok_cells_All_1 : okF PG fn_cells_All_1 tab_cells_All_1 = true := by kernel_rfl
theorem call_cells_All_1 {yield : Value} {a1 : Option Addr} {h : Mem} {Q : Mem → Prop} (hw' : wp_cells_All_1 yield a1 h Q) : CallF PG fn_cells_All_1 [yield, .pointer a1] (.tup []) h Q := callF_of PM ok_cells_All_1 (eq_cells_All_1 yield a1 h Q ▸ hw')

/- 177: dunnage/cells.each; loop 2: [at] -/
def tab_cells_each : Tab := ⟨[(2, ⟨[(5, .leaf (.int .i64))], [4, 6, 7, 8, 9, 10, 11, 12, 13, 14, 15, 16, 17, 18, 19, 20, 21, 22, 23, 24, 25, 26, 27, 28, 29, 30, 31, 32, 33, 34, 35, 36, 37]⟩)], [], []⟩
def wp_cells_each (w : Sl) (yield : Value) (h : Mem) (Q : Bool → Mem → Prop) : Prop :=
  ∃ (I1 : Int → Mem → Prop),
    ∃ (I2 : Int → Mem → Nat),
      I1 1 h ∧
        ∀ (j3 : Fr) (n4 : Int) (h5 : Mem),
          I1 n4 h5 →
            Br (decide (n4 < (↑w.len : Int)))
              (Idx w.a w.len n4 fun (p6 : Addr) =>
                Ld PG ty_uint32 (p6.add (n4.toNat * 1)) (Kd.one (Cmp.leaf (Leaf.int IntKind.u32))) h5 fun (n7 : Int) =>
                  CallF PG fn_cells_Size [Value.int IntKind.u32 n7] (Kd.one (Cmp.leaf (Leaf.int IntKind.i64))) h5 fun (n8 : Int) (h9 : Mem) =>
                    CallF PG fn_cells_Ptrs [Value.int IntKind.u32 n7] (Kd.one (Cmp.leaf (Leaf.int IntKind.i64))) h9 fun (n10 : Int) (h11 : Mem) =>
                      Br (decide (n8 ≤ n10)) (Q false h11)
                        (CallF PG fn_cells_Size [Value.int IntKind.u32 n7] (Kd.one (Cmp.leaf (Leaf.int IntKind.i64))) h11 fun (n12 : Int) (h13 : Mem) =>
                          Br (decide (n12 > IntKind.i64.wrap ((↑w.len : Int) - n4))) (Q false h13)
                            (CallV PG yield [Value.int IntKind.i64 n4, Value.int IntKind.u32 n7] (Kd.one (Cmp.leaf Leaf.bool)) h13 fun (b14 : Bool) (h15 : Mem) =>
                              Br (!b14) (Q false h15)
                                (CallF PG fn_cells_Size [Value.int IntKind.u32 n7] (Kd.one (Cmp.leaf (Leaf.int IntKind.i64))) h15 fun (n16 : Int) (h17 : Mem) =>
                                  I1 (IntKind.i64.wrap (n4 + n16)) h17 ∧ I2 (IntKind.i64.wrap (n4 + n16)) h17 < I2 n4 h5))))
              (Q true h5)
theorem eq_cells_each (w : Sl) (yield : Value) (h : Mem) (Q : Bool → Mem → Prop) : wp_cells_each w yield h Q = evFn PG fn_cells_each tab_cells_each [.slice w.a w.len w.cap, yield] (.one (.leaf .bool)) h Q := by kernel_rfl
theorem ok_cells_each : okF PG fn_cells_each tab_cells_each = true := by kernel_rfl
theorem call_cells_each {w : Sl} {yield : Value} {h : Mem} {Q : Bool → Mem → Prop} (hw' : wp_cells_each w yield h Q) : CallF PG fn_cells_each [.slice w.a w.len w.cap, yield] (.one (.leaf .bool)) h Q := callF_of PM ok_cells_each (eq_cells_each w yield h Q ▸ hw')

/- 178: dunnage/cells.Kind -/
def tab_cells_Kind : Tab := ⟨[], [], []⟩
def wp_cells_Kind (h' : Int) (h : Mem) (Q : Int → Mem → Prop) : Prop :=
  Q (IntKind.i64.wrap (h'.tmod 16)) h
theorem eq_cells_Kind (h' : Int) (h : Mem) (Q : Int → Mem → Prop) : wp_cells_Kind h' h Q = evFn PG fn_cells_Kind tab_cells_Kind [.int .u32 h'] (.one (.leaf (.int .i64))) h Q := by kernel_rfl
theorem ok_cells_Kind : okF PG fn_cells_Kind tab_cells_Kind = true := by kernel_rfl
theorem call_cells_Kind {h' : Int} {h : Mem} {Q : Int → Mem → Prop} (hw' : wp_cells_Kind h' h Q) : CallF PG fn_cells_Kind [.int .u32 h'] (.one (.leaf (.int .i64))) h Q := callF_of PM ok_cells_Kind (eq_cells_Kind h' h Q ▸ hw')

/- 196: slices.IndexFunc[[]int,int]; loop 2: [] -/
def tab_slices_IndexFunc_int_int_ : Tab := ⟨[(2, ⟨[(8, .leaf (.int .i64))], [4, 5, 9, 10, 11, 12, 13, 14, 15, 16, 17, 18]⟩)], [], []⟩
def wp_slices_IndexFunc_int_int_ (s : Sl) (f : Value) (h : Mem) (Q : Int → Mem → Prop) : Prop :=
  ∃ (I1 : Int → Mem → Prop),
    ∃ (I2 : Int → Mem → Nat),
      I1 0 h ∧
        ∀ (j3 : Fr) (n4 : Int) (h5 : Mem),
          I1 n4 h5 →
            Br (decide (n4 < (↑s.len : Int)))
              (Idx s.a s.len n4 fun (p6 : Addr) =>
                Ld PG ty_int (p6.add (n4.toNat * 1)) (Kd.one (Cmp.leaf (Leaf.int IntKind.i64))) h5 fun (n7 : Int) =>
                  CallV PG f [Value.int IntKind.i64 n7] (Kd.one (Cmp.leaf Leaf.bool)) h5 fun (b8 : Bool) (h9 : Mem) =>
                    Br b8 (Q n4 h9) (I1 (IntKind.i64.wrap (n4 + 1)) h9 ∧ I2 (IntKind.i64.wrap (n4 + 1)) h9 < I2 n4 h5))
              (Q (-1) h5)
theorem eq_slices_IndexFunc_int_int_ (s : Sl) (f : Value) (h : Mem) (Q : Int → Mem → Prop) : wp_slices_IndexFunc_int_int_ s f h Q = evFn PG fn_slices_IndexFunc_int_int_ tab_slices_IndexFunc_int_int_ [.slice s.a s.len s.cap, f] (.one (.leaf (.int .i64))) h Q := by kernel_rfl
theorem ok_slices_IndexFunc_int_int_ : okF PG fn_slices_IndexFunc_int_int_ tab_slices_IndexFunc_int_int_ = true := by kernel_rfl
theorem call_slices_IndexFunc_int_int_ {s : Sl} {f : Value} {h : Mem} {Q : Int → Mem → Prop} (hw' : wp_slices_IndexFunc_int_int_ s f h Q) : CallF PG fn_slices_IndexFunc_int_int_ [.slice s.a s.len s.cap, f] (.one (.leaf (.int .i64))) h Q := callF_of PM ok_slices_IndexFunc_int_int_ (eq_slices_IndexFunc_int_int_ s f h Q ▸ hw')

end Go.Dn.W
