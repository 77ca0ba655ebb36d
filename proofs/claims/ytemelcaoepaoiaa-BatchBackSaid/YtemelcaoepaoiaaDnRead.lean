/- Reading of bytes: closures that are bound to variables; the arithmetic of word.ReadVar. -/
import Derived.Test.YtemelcaoepaoiaaDnOwn
import Derived.Test.YtemelcaoepaoiaaDnL10c
set_option linter.unusedVariables false
namespace Go.Dn.W
open Go Go.Dn Go.Proofs

/-- a call of a closure that is bound to variables -/
theorem callV_bound {P : Program} {g : FuncId} {args bound : List Value} {kd : Kd} {h : Mem} {K : Cur (Mem → Prop) kd.leaves} (c : CallF P g (args ++ bound) kd h K) : CallV P (.func (.func g) #[] bound.toArray) args kd h K := by
  intro w hw
  have := c w hw
  simp only [Deferred.ofValue, Sem.run_bind, Sem.run_pure, Result.andThen_ok, invoke, Array.empty_append]
  rw [show args.toArray ++ bound.toArray = (args ++ bound).toArray by simp]
  exact this

/-- what ReadVar makes of bytes from a place on: n bytes are read, v is their number -/
inductive Rd where
  | ok (v : Nat) (n : Nat)
  | form
  | short
def rdBad (n : Nat) (c : UInt8) : Bool := (decide (n = 9) && decide (c.toNat > 1)) || (decide (n > 0) && decide (c.toNat = 0))
def rdVar : List UInt8 → Nat → Nat → Rd
  | [], _, _ => .short
  | c :: b, n, v => if rdBad n c = true then .form else if c.toNat ≥ 128 then rdVar b (n + 1) (v + c.toNat % 128 * 2 ^ (7 * n)) else .ok (v + c.toNat % 128 * 2 ^ (7 * n)) (n + 1)

theorem and_byte (c : UInt8) : bitsOf BinOp.and IntKind.u8 (c.toNat : Int) 127 = ((c.toNat % 128 : Nat) : Int) := by
  have : ∀ x : Fin 256, bitsOf BinOp.and IntKind.u8 ((x : Nat) : Int) 127 = (((x : Nat) % 128 : Nat) : Int) := by decide +kernel
  exact this ⟨c.toNat, c.toNat_lt⟩
theorem u64_nat {n : Nat} (h : n < 18446744073709551616) : (BitVec.ofInt 64 (n : Int)).toNat = n := by
  rw [BitVec.toNat_ofInt]
  omega
theorem or_part {n v x : Nat} (hv : v < 2 ^ n) (hx : x * 2 ^ n + v < 18446744073709551616) : bitsOf BinOp.or IntKind.u64 (v : Int) ((x * 2 ^ n : Nat) : Int) = ((v + x * 2 ^ n : Nat) : Int) := by
  have e : v ||| (x * 2 ^ n) = v + x * 2 ^ n := by
    have := Nat.shiftLeft_add_eq_or_of_lt hv x
    rw [Nat.shiftLeft_eq] at this
    rw [Nat.or_comm, ← this, Nat.add_comm]
  unfold bitsOf
  show IntKind.u64.wrap (((BitVec.ofInt 64 (v : Int) ||| BitVec.ofInt 64 ((x * 2 ^ n : Nat) : Int)).toNat : Nat) : Int) = _
  rw [BitVec.toNat_or, u64_nat (by omega), u64_nat (by omega), e, u64_eq (by omega)]
theorem part_bound {n v : Nat} {c : UInt8} (hn : n ≤ 9) (hv : v < 2 ^ (7 * n)) (hb : rdBad n c = false) : c.toNat % 128 * 2 ^ (7 * n) + v < 18446744073709551616 := by
  rcases Nat.lt_or_eq_of_le hn with h8 | rfl
  · have h1 : 2 ^ (7 * n) ≤ 2 ^ 56 := Nat.pow_le_pow_right (by decide) (by omega)
    have h2 : c.toNat % 128 * 2 ^ (7 * n) ≤ 127 * 2 ^ (7 * n) := Nat.mul_le_mul_right _ (by omega)
    omega
  · have h1 : c.toNat ≤ 1 := by
      unfold rdBad at hb
      simp only [decide_true, Bool.true_and, Bool.or_eq_false_iff, decide_eq_false_iff_not] at hb
      omega
    have h2 : c.toNat % 128 * 2 ^ (7 * 9) ≤ 1 * 2 ^ (7 * 9) := Nat.mul_le_mul_right _ (by omega)
    omega
theorem part_eq {n v : Nat} {c : UInt8} (hn : n ≤ 9) (hv : v < 2 ^ (7 * n)) (hb : rdBad n c = false) :
    bitsOf BinOp.or IntKind.u64 (v : Int) (IntKind.u64.wrap (IntKind.u64.wrap (bitsOf BinOp.and IntKind.u8 (c.toNat : Int) 127) * 2 ^ shN IntKind.u64 (IntKind.i64.wrap (7 * (n : Int))))) = ((v + c.toNat % 128 * 2 ^ (7 * n) : Nat) : Int) := by
  have hbd := part_bound hn hv hb
  have e1 : shN IntKind.u64 (IntKind.i64.wrap (7 * (n : Int))) = 7 * n := by
    rw [i64_eq (by omega) (by omega)]
    unfold shN
    rw [show (7 * (n : Int)).toNat = 7 * n by omega, show IntKind.u64.bits = 64 from rfl]
    omega
  rw [and_byte, u64_eq (by omega), e1]
  have e2 : ((c.toNat % 128 : Nat) : Int) * 2 ^ (7 * n) = ((c.toNat % 128 * 2 ^ (7 * n) : Nat) : Int) := by simp
  rw [e2, u64_eq (n := c.toNat % 128 * 2 ^ (7 * n)) (by omega)]
  exact or_part hv hbd

section
variable {h : Mem}
def IntAt (h : Mem) (k : Nat) (n : Int) : Prop := h[k]? = some (.cells #[.int .i64 n] ty_int (0, 0))
def NumAt (h : Mem) (k : Nat) (n : Int) : Prop := h[k]? = some (.cells #[.int .u64 n] ty_uint64 (0, 0))
def BoolAt (h : Mem) (k : Nat) (b : Bool) : Prop := h[k]? = some (.cells #[.bool b] ty_bool (0, 0))
/-- of what was there the three variables alone have turned -/
structure Three (kn kf kv : Nat) (h h' : Mem) : Prop where
  size : h'.size = h.size
  block : ∀ j, j ≠ kn → j ≠ kf → j ≠ kv → h'[j]? = h[j]?
theorem rv_go {c : UInt8} {n v kn kf kv : Nat} {Q : Bool → Mem → Prop} (rn : IntAt h kn n) (rv : NumAt h kv v) (hn : n ≤ 9) (hv : v < 2 ^ (7 * n)) (hb : rdBad n c = false)
    (q : ∀ h', IntAt h' kn ((n + 1 : Nat) : Int) → NumAt h' kv ((v + c.toNat % 128 * 2 ^ (7 * n) : Nat) : Int) → Three kn kf kv h h' → Q (decide ((c.toNat : Int) ≥ 128)) h') :
    Deref (some ⟨kv, 0, none⟩) fun (p9 : Addr) =>
      Ld PG ty_uint64 p9 (Kd.one (Cmp.leaf (Leaf.int IntKind.u64))) h fun (n10 : Int) =>
        Deref (some ⟨kn, 0, none⟩) fun (p11 : Addr) =>
          Ld PG ty_int p11 (Kd.one (Cmp.leaf (Leaf.int IntKind.i64))) h fun (n12 : Int) =>
            Chk (decide (0 ≤ IntKind.i64.wrap (7 * n12)))
              (Deref (some ⟨kv, 0, none⟩) fun (p13 : Addr) =>
                St PG ty_uint64 p13
                  (Value.int IntKind.u64
                    (bitsOf BinOp.or IntKind.u64 n10
                      (IntKind.u64.wrap (IntKind.u64.wrap (bitsOf BinOp.and IntKind.u8 (c.toNat : Int) 127) * 2 ^ shN IntKind.u64 (IntKind.i64.wrap (7 * n12))))))
                  h fun (h14 : Mem) =>
                  Deref (some ⟨kn, 0, none⟩) fun (p15 : Addr) =>
                    Ld PG ty_int p15 (Kd.one (Cmp.leaf (Leaf.int IntKind.i64))) h14 fun (n16 : Int) =>
                      Deref (some ⟨kn, 0, none⟩) fun (p17 : Addr) =>
                        St PG ty_int p17 (Value.int IntKind.i64 (IntKind.i64.wrap (n16 + 1))) h14 fun (h18 : Mem) => Q (decide ((c.toNat : Int) ≥ 128)) h18) := by
  have hne : kn ≠ kv := fun e => by
    unfold IntAt at rn; unfold NumAt at rv
    rw [e, rv] at rn; cases rn
  show Ld _ _ _ _ _ _
  refine Ld.u (row_cell rv rfl) ?_
  show Ld _ _ _ _ _ _
  refine Ld.i (row_cell rn rfl) ?_
  have ec : decide (0 ≤ IntKind.i64.wrap (7 * (n : Int))) = true := by rw [i64_eq (by omega) (by omega)]; simp; omega
  rw [part_eq hn hv hb]
  refine Chk.mk ec ?_
  show St _ _ _ _ _ _
  refine St.row und_u (vs := [.int .u64 ((v + c.toNat % 128 * 2 ^ (7 * n) : Nat) : Int)]) rfl (by kernel_rfl) (by intro u hu; simp only [List.mem_cons, List.not_mem_nil, or_false] at hu; subst hu; rfl) rv (show 1 ≤ 1 by decide) fun h14 u14 r14 => ?_
  have rn14 : IntAt h14 kn n := (u14.block kn hne).trans rn
  show Ld _ _ _ _ _ _
  refine Ld.i (row_cell rn14 rfl) ?_
  show St _ _ _ _ _ _
  rw [wrap_succ (by omega)]
  refine St.row und_i (vs := [.int .i64 ((n + 1 : Nat) : Int)]) rfl (by kernel_rfl) (by intro u hu; simp only [List.mem_cons, List.not_mem_nil, or_false] at hu; subst hu; rfl) rn14 (show 1 ≤ 1 by decide) fun h18 u18 r18 => ?_
  exact q h18 r18 ((u18.block kv fun e => hne e.symm).trans r14) ⟨u18.size.trans u14.size, fun j h1 _ h3 => (u18.block j h1).trans (u14.block j h3)⟩
theorem rv_bad {kn kf kv : Nat} {f : Bool} {Q : Bool → Mem → Prop} (rf : BoolAt h kf f) (q : ∀ h', BoolAt h' kf false → Three kn kf kv h h' → Q false h') :
    Deref (some ⟨kf, 0, none⟩) fun (p3 : Addr) => St PG ty_bool p3 (Value.bool false) h fun (h4 : Mem) => Q false h4 := by
  show St _ _ _ _ _ _
  refine St.row und_bool (vs := [.bool false]) rfl (by kernel_rfl) (by intro u hu; simp only [List.mem_cons, List.not_mem_nil, or_false] at hu; subst hu; rfl) rf (show 1 ≤ 1 by decide) fun h4 u4 r4 => ?_
  exact q h4 r4 ⟨u4.size, fun j _ h2 _ => u4.block j h2⟩

theorem ct_ReadVar_1 {c : UInt8} {n v kn kf kv : Nat} {f : Bool} {Q : Bool → Mem → Prop} (rn : IntAt h kn n) (rf : BoolAt h kf f) (rv : NumAt h kv v) (hn : n ≤ 9) (hv : v < 2 ^ (7 * n))
    (qb : rdBad n c = true → ∀ h', BoolAt h' kf false → Three kn kf kv h h' → Q false h')
    (qg : rdBad n c = false → ∀ h', IntAt h' kn ((n + 1 : Nat) : Int) → NumAt h' kv ((v + c.toNat % 128 * 2 ^ (7 * n) : Nat) : Int) → Three kn kn kv h h' → Q (decide ((c.toNat : Int) ≥ 128)) h') :
    CallF PG fn_word_ReadVar_1 [.int .u8 (c.toNat : Int), .pointer (some ⟨kn, 0, none⟩), .pointer (some ⟨kf, 0, none⟩), .pointer (some ⟨kv, 0, none⟩)] (.one (.leaf .bool)) h Q := by
  have c0 : (c.toNat : Int) = 0 ↔ c.toNat = 0 := by omega
  refine call_word_ReadVar_1 ?_
  show Ld _ _ _ _ _ _
  refine Ld.i (row_cell rn rfl) (Br.mk (fun e => Br.mk (fun e1 => rv_bad (kn := kn) (kv := kv) rf (qb ?_)) fun e1 => ?_) fun e => ?_)
  · have e : n = 9 := by simp at e; omega
    simp only [gt_iff_lt, decide_eq_true_eq] at e1
    unfold rdBad
    rw [decide_eq_true e, decide_eq_true (by omega)]; rfl
  all_goals
    show Ld _ _ _ _ _ _
    refine Ld.i (row_cell rn rfl) (Br.mk (fun e2 => Br.mk (fun e3 => rv_bad (kn := kn) (kv := kv) rf (qb ?_)) fun e3 => rv_go (kf := kn) rn rv hn hv ?_ (qg ?_)) fun e2 => rv_go (kf := kn) rn rv hn hv ?_ (qg ?_))
  all_goals
    unfold rdBad
    simp only [gt_iff_lt, beq_iff_eq, beq_eq_false_iff_ne, ne_eq, decide_eq_true_eq, decide_eq_false_iff_not, Bool.or_eq_true, Bool.or_eq_false_iff, Bool.and_eq_true, Bool.and_eq_false_iff] at *
    omega

def RdIs (r : Rd) (at' kf kv : Nat) (p : Int) (m : Bool) (h' : Mem) : Prop :=
  match r with
  | .ok v n => p = ((at' + n : Nat) : Int) ∧ m = false ∧ NumAt h' kv (v : Int) ∧ BoolAt h' kf true
  | .form => BoolAt h' kf false
  | .short => m = true ∧ BoolAt h' kf true
theorem und_do : ∃ d, PG.underlying ty_func_uint8_bool = some d := Option.isSome_iff_exists.1 (by kernel_rfl)
theorem agg_do : isAggB PG ty_func_uint8_bool = false := by kernel_rfl
theorem agg_b : isAggB PG ty_uint8 = false := by kernel_rfl
theorem und_b : PG.underlying ty_uint8 = some (.int .u8) := by kernel_rfl
theorem ct_over {h0 : Mem} {B at' kn kf kv : Nat} {b : Sl} {l : List UInt8} {Q : Int → Bool → Mem → Prop} (hb : BytesSl h0 b l) (x0 : Ext h0.size h0 h) (hB : h0.size ≤ B) (hkn : B ≤ kn) (hkf : B ≤ kf) (hkv : B ≤ kv)
    (rn : IntAt h kn (0 : Nat)) (rf : BoolAt h kf true) (rv : NumAt h kv (0 : Nat)) (hl : l.length ≤ 140737488355328) (hat : at' ≤ 140737488355328) (q : ∀ (p : Int) (m : Bool) h', Ext B h h' → RdIs (rdVar (l.drop at') 0 0) at' kf kv p m h' → Q p m h') :
    CallF PG fn_word_walk_over [.agg #[.func (.func fn_word_ReadVar_1) #[] #[.pointer (some ⟨kn, 0, none⟩), .pointer (some ⟨kf, 0, none⟩), .pointer (some ⟨kv, 0, none⟩)]], sval b, .int .i64 (at' : Int)] (.tup [.leaf (.int .i64), .leaf .bool]) h Q := by
  obtain ⟨td, hd⟩ := und_do
  have hkn' := (Array.getElem?_eq_some_iff.1 rn).1
  have hkf' := (Array.getElem?_eq_some_iff.1 rf).1
  have hkv' := (Array.getElem?_eq_some_iff.1 rv).1
  refine call_word_walk_over (New.go fun h2 _ x2 z2 r2 => ?_)
  refine ⟨fun p h' => ∃ (i n v : Nat), p = ((at' + i : Nat) : Int) ∧ n = i ∧ n ≤ 9 ∧ v < 2 ^ (7 * n) ∧ rdVar (l.drop (at' + i)) n v = rdVar (l.drop at') 0 0 ∧ IntAt h' kn n ∧ BoolAt h' kf true ∧ NumAt h' kv v ∧ Ext B h h' ∧ h'[h.size]? = h2[h.size]? ∧ h'.size = h2.size, fun p _ => l.length - p.toNat,
    ⟨0, 0, 0, rfl, rfl, by omega, by decide, rfl, (x2.block _ hkn').trans rn, (x2.block _ hkf').trans rf, (x2.block _ hkv').trans rv, x2.less (by omega), rfl, rfl⟩, ?_⟩
  rintro _ p h7 ⟨i, n, v, rfl, rfl, hn, hv, hrd, n7, f7, v7, x7, k7, z7⟩
  refine Br.mk (fun e1 => ?_) fun e1 => ?_
  · simp only [decide_eq_true_eq] at e1
    rw [hb.len] at e1
    obtain ⟨c, hc⟩ : ∃ c, l[at' + n]? = some c := ⟨_, List.getElem?_eq_getElem (by omega)⟩
    have hdr : l.drop (at' + n) = c :: l.drop (at' + n + 1) := by
      obtain ⟨hlt, rfl⟩ := List.getElem?_eq_some_iff.1 hc
      exact List.drop_eq_getElem_cons hlt
    have b7 := hb.ext (x0.trans (x7.less hB))
    refine Ld.cell (l := .raw) hd agg_do (row_cell (k7.trans r2) rfl) ?_
    rw [wrap_succ (by omega), i64_eq (n := ((at' + n + 1 : Nat) : Int) - 1) (by omega) (by omega), show ((at' + n + 1 : Nat) : Int) - 1 = ((at' + n : Nat) : Int) by omega]
    obtain ⟨ba, hba⟩ : ∃ a, b.a = some a := by
      cases hh : b.a with
      | none => have := hb.at_; rw [hh] at this; rw [show l = [] from this] at hc; simp at hc
      | some a => exact ⟨a, rfl⟩
    refine Idx.mk hba (by rw [hb.len]; omega) ?_
    have hcell := b7.at_
    rw [hba] at hcell
    rw [nat_mul, Nat.mul_one]
    refine Ld.cell (l := .int .u8) (x := (c.toNat : Int)) und_b agg_b (hcell _ c hc) (callV_bound (ct_ReadVar_1 n7 f7 v7 hn hv (fun bad h12 f12 t12 => Br.t rfl (q _ _ h12 ?_ ?_)) fun ok h12 n12 v12 t12 => ?_))
    · exact x7.trans ⟨Nat.le_of_eq t12.size.symm, fun j hj => t12.block j (by omega) (by omega) (by omega)⟩
    · rw [← hrd, hdr]; unfold rdVar; rw [if_pos bad]; exact f12
    · have x12 : Ext B h h12 := x7.trans ⟨Nat.le_of_eq t12.size.symm, fun j hj => t12.block j (by omega) (by omega) (by omega)⟩
      have ne1 : kf ≠ kn := fun e => by unfold BoolAt at f7; unfold IntAt at n7; rw [e, n7] at f7; cases f7
      have ne2 : kf ≠ kv := fun e => by unfold BoolAt at f7; unfold NumAt at v7; rw [e, v7] at f7; cases f7
      have f12 : BoolAt h12 kf true := (t12.block kf ne1 ne1 ne2).trans f7
      have hb' := part_bound hn hv ok
      have hp : 2 ^ (7 * (n + 1)) = 128 * 2 ^ (7 * n) := by rw [show 7 * (n + 1) = 7 * n + 7 by omega, Nat.pow_add, Nat.mul_comm]
      have hx : c.toNat % 128 * 2 ^ (7 * n) ≤ 127 * 2 ^ (7 * n) := Nat.mul_le_mul_right _ (by omega)
      have hr1 : rdVar (c :: l.drop (at' + n + 1)) n v = if c.toNat ≥ 128 then rdVar (l.drop (at' + n + 1)) (n + 1) (v + c.toNat % 128 * 2 ^ (7 * n)) else .ok (v + c.toNat % 128 * 2 ^ (7 * n)) (n + 1) := by
        rw [rdVar, if_neg (by rw [ok]; decide)]
      refine Br.mk (fun e2 => q _ _ h12 x12 ?_) fun e2 => ?_
      · have e2 : ¬ c.toNat ≥ 128 := by simp only [Bool.not_eq_true', decide_eq_false_iff_not] at e2; omega
        rw [← hrd, hdr, hr1, if_neg e2]
        exact ⟨by omega, rfl, v12, f12⟩
      · have e2 : c.toNat ≥ 128 := by simp only [Bool.not_eq_false', decide_eq_true_eq] at e2; omega
        have h8 : n + 1 ≤ 9 := by
          rcases Nat.lt_or_eq_of_le hn with h | rfl
          · omega
          · exfalso
            unfold rdBad at ok
            simp only [decide_true, Bool.true_and, Bool.or_eq_false_iff, decide_eq_false_iff_not] at ok
            omega
        refine ⟨⟨n + 1, n + 1, _, by omega, rfl, h8, by rw [hp]; omega, ?_, n12, f12, v12, x12, (t12.block h.size (by omega) (by omega) (by omega)).trans k7, t12.size.trans z7⟩, by simp only [Int.toNat_natCast]; omega⟩
        rw [← hrd, hdr, hr1, if_pos e2]; rfl
  · simp only [decide_eq_false_iff_not] at e1
    rw [hb.len] at e1
    refine q _ _ h7 x7 ?_
    rw [← hrd, List.drop_eq_nil_of_le (by omega)]
    exact ⟨rfl, f7⟩

/-- what word.ReadVar tells -/
def rdOut (r : Rd) (at' : Nat) : Int × Int × Int :=
  match r with
  | .ok v n => ((v : Int), ((at' + n : Nat) : Int), 0)
  | .form => (0, 0, 11)
  | .short => (0, 0, 10)
theorem und_walk : ∃ d, PG.underlying ty_word_walk = some d := Option.isSome_iff_exists.1 (by kernel_rfl)
theorem agg_walk : isAggB PG ty_word_walk = true := by kernel_rfl
theorem sz_walk : szOf PG ty_word_walk = 1 := by kernel_rfl
theorem ct_word_ReadVar {at' : Nat} {b : Sl} {l : List UInt8} {Q : Int → Int → Int → Mem → Prop} (hb : BytesSl h b l) (hl : l.length ≤ 140737488355328) (hat : at' ≤ 140737488355328)
    (q : ∀ h', Ext h.size h h' → Q (rdOut (rdVar (l.drop at') 0 0) at').1 (rdOut (rdVar (l.drop at') 0 0) at').2.1 (rdOut (rdVar (l.drop at') 0 0) at').2.2 h') :
    CallF PG fn_word_ReadVar [sval b, .int .i64 (at' : Int)] (.tup [.leaf (.int .u64), .leaf (.int .i64), .leaf (.int .i64)]) h Q := by
  obtain ⟨tw, hw⟩ := und_walk
  refine call_word_ReadVar (Br.f (by simp) (New.go fun h2 _ x2 z2 r2 => New.go fun h4 _ x4 z4 r4 => New.go fun h6 _ x6 z6 r6 => ?_))
  have r26 : NumAt h6 h.size (0 : Nat) := ((x4.after x6).block h.size (by omega)).trans r2
  have r46 : IntAt h6 h2.size (0 : Nat) := (x6.block h2.size (by omega)).trans r4
  refine St.row und_u (vs := [.int .u64 0]) rfl (by kernel_rfl) (by intro u hu; simp only [List.mem_cons, List.not_mem_nil, or_false] at hu; subst hu; rfl) r26 (show 1 ≤ 1 by decide) fun h7 u7 r7 => ?_
  have z7 := u7.size
  have r47 : IntAt h7 h2.size (0 : Nat) := (u7.block _ (by omega)).trans r46
  have r67 := (u7.block h4.size (by omega)).trans r6
  refine St.row und_i (vs := [.int .i64 0]) rfl (by kernel_rfl) (by intro u hu; simp only [List.mem_cons, List.not_mem_nil, or_false] at hu; subst hu; rfl) r47 (show 1 ≤ 1 by decide) fun h8 u8 r8 => ?_
  have z8 := u8.size
  have r78 := (u8.block h.size (by omega)).trans r7
  have r68 := (u8.block h4.size (by omega)).trans r67
  refine St.row und_bool (vs := [.bool true]) rfl (by kernel_rfl) (by intro u hu; simp only [List.mem_cons, List.not_mem_nil, or_false] at hu; subst hu; rfl) r68 (show 1 ≤ 1 by decide) fun h9 u9 r9 => ?_
  have z9 := u9.size
  have r79 := (u9.block h.size (by omega)).trans r78
  have r89 := (u9.block h2.size (by omega)).trans r8
  refine New.go fun h11 _ x11 z11 r11 => ?_
  refine St.row hw (vs := [.func (.func fn_word_ReadVar_1) #[] #[.pointer (some ⟨h2.size, 0, none⟩), .pointer (some ⟨h4.size, 0, none⟩), .pointer (some ⟨h.size, 0, none⟩)]]) rfl sz_walk (by intro u hu; simp only [List.mem_cons, List.not_mem_nil, or_false] at hu; subst hu; rfl) r11 (show 1 ≤ 1 by decide) fun h12 u12 r12 => ?_
  refine Ld.agg hw agg_walk sz_walk rfl (Cells.whole (cs := [.func (.func fn_word_ReadVar_1) #[] #[.pointer (some ⟨h2.size, 0, none⟩), .pointer (some ⟨h4.size, 0, none⟩), .pointer (some ⟨h.size, 0, none⟩)]]) r12) ⟨_, .raw _, ?_⟩
  have k : ∀ j, j < h9.size → h12[j]? = h9[j]? := fun j hj => (u12.block j (by omega)).trans (x11.block j hj)
  have x012 : Ext h.size h h12 := (x2.after (x4.after x6)).trans ((u7.ext (Nat.le_refl _)).trans ((u8.ext (by omega)).trans ((u9.ext (by omega)).trans ((x11.trans (u12.ext (Nat.le_refl _))).less (by omega)))))
  refine ct_over (kn := h2.size) (kf := h4.size) (kv := h.size) hb x012 (Nat.le_refl _) (by omega) (by omega) (Nat.le_refl _) ((k _ (by omega)).trans r89) ((k _ (by omega)).trans r9) ((k _ (by omega)).trans r79) hl hat fun p m h16 x16 hr => ?_
  have q := q h16 (x012.trans x16)
  cases hd : rdVar (l.drop at') 0 0 with
  | ok v n =>
    rw [hd] at hr q
    obtain ⟨rfl, rfl, h1, h2'⟩ := hr
    exact Ld.flag (row_cell h2' rfl) (Br.f rfl (Br.f rfl (Ld.u (row_cell h1 rfl) q)))
  | form =>
    rw [hd] at hr q
    exact Ld.flag (row_cell hr rfl) (Br.t rfl q)
  | short =>
    rw [hd] at hr q
    obtain ⟨rfl, h2'⟩ := hr
    exact Ld.flag (row_cell h2' rfl) (Br.f rfl (Br.t rfl q))
end
end Go.Dn.W

set_option linter.unusedVariables false
namespace Go.Dn.W
open Go Go.Dn Go.Proofs

theorem rdVar_len : ∀ (l : List UInt8) (k v w n : Nat), rdVar l k v = .ok w n → k < n ∧ n ≤ k + l.length
  | [], k, v, w, n, h => by simp [rdVar] at h
  | c :: b, k, v, w, n, h => by
    rw [rdVar] at h
    split at h
    · cases h
    · split at h
      · have := rdVar_len b _ _ w n h
        simp only [List.length_cons]; omega
      · cases h
        simp only [List.length_cons]; omega
theorem rdVar_top : ∀ (l : List UInt8) (k v w n : Nat), k ≤ 9 → v < 2 ^ (7 * k) → rdVar l k v = .ok w n → w ≤ 18446744073709551615
  | [], k, v, w, n, _, _, h => by simp [rdVar] at h
  | c :: b, k, v, w, n, hk, hv, h => by
    rw [rdVar] at h
    split at h
    · cases h
    · rename_i hb
      have hb : rdBad k c = false := by simpa using hb
      have hbd := part_bound hk hv hb
      split at h
      · rename_i h128
        have h8 : k + 1 ≤ 9 := by
          rcases Nat.lt_or_eq_of_le hk with h | rfl
          · omega
          · exfalso
            unfold rdBad at hb
            simp only [decide_true, Bool.true_and, Bool.or_eq_false_iff, decide_eq_false_iff_not] at hb
            omega
        refine rdVar_top b _ _ w n h8 ?_ h
        have hp : 2 ^ (7 * (k + 1)) = 128 * 2 ^ (7 * k) := by rw [show 7 * (k + 1) = 7 * k + 7 by omega, Nat.pow_add, Nat.mul_comm]
        have hx : c.toNat % 128 * 2 ^ (7 * k) ≤ 127 * 2 ^ (7 * k) := Nat.mul_le_mul_right _ (by omega)
        rw [hp]; omega
      · cases h
        omega

/-- the next number -/
@[irreducible] def rNum (l : List UInt8) (s : Nat × Nat) : Nat × Nat × Nat :=
  if s.2 = 0 then
    match rdVar (l.drop s.1) 0 0 with
    | .ok v n => (v, s.1 + n, 0)
    | .form => (0, s.1, 11)
    | .short => (0, s.1, 10)
  else (0, s)
@[irreducible] def rMost (m : Nat) (l : List UInt8) (s : Nat × Nat) : Nat × Nat × Nat := if (rNum l s).1 > m then (0, (rNum l s).2.1, 11) else rNum l s
@[irreducible] def rByte (l : List UInt8) (s : Nat × Nat) : Nat × Nat × Nat :=
  if s.2 = 0 then
    match l[s.1]? with
    | some c => (c.toNat, s.1 + 1, 0)
    | none => (0, s.1, 10)
  else (0, s)
@[irreducible] def rdTxt (m : Nat) (l : List UInt8) (a : Nat) : List UInt8 × Nat × Nat :=
  match rdVar (l.drop a) 0 0 with
  | .form => ([], 0, 11)
  | .short => ([], 0, 10)
  | .ok v n => if v > m then ([], 0, 4) else if v > l.length - (a + n) then ([], 0, 10) else ((l.drop (a + n)).take v, a + n + v, 0)
@[irreducible] def rText (m : Nat) (l : List UInt8) (s : Nat × Nat) : List UInt8 × Nat × Nat :=
  if s.2 = 0 then
    if (rdTxt m l s.1).2.2 = 0 then rdTxt m l s.1 else ([], s.1, (rdTxt m l s.1).2.2)
  else ([], s)

theorem rNum_at {l : List UInt8} {s : Nat × Nat} (h : s.1 ≤ l.length) : (rNum l s).2.1 ≤ l.length ∧ (rNum l s).1 ≤ 18446744073709551615 ∧ ((rNum l s).2.2 ≠ 0 → (rNum l s).1 = 0) := by
  unfold rNum
  split
  · cases hd : rdVar (l.drop s.1) 0 0 with
    | ok v n =>
      have h1 := rdVar_len _ _ _ _ _ hd
      have h2 := rdVar_top _ _ _ _ _ (by decide) (by decide) hd
      rw [List.length_drop] at h1
      exact ⟨by show s.1 + n ≤ _; omega, h2, fun h => absurd rfl h⟩
    | form => exact ⟨h, Nat.zero_le _, fun _ => rfl⟩
    | short => exact ⟨h, Nat.zero_le _, fun _ => rfl⟩
  · exact ⟨h, Nat.zero_le _, fun _ => rfl⟩
theorem rMost_at {m : Nat} {l : List UInt8} {s : Nat × Nat} (h : s.1 ≤ l.length) : (rMost m l s).2.1 ≤ l.length ∧ (rMost m l s).1 ≤ m := by
  unfold rMost
  split
  · exact ⟨(rNum_at h).1, Nat.zero_le _⟩
  · exact ⟨(rNum_at h).1, by omega⟩
theorem rByte_at {l : List UInt8} {s : Nat × Nat} (h : s.1 ≤ l.length) : (rByte l s).2.1 ≤ l.length ∧ (rByte l s).1 < 256 := by
  unfold rByte
  split
  · cases hd : l[s.1]? with
    | some c => exact ⟨(List.getElem?_eq_some_iff.1 hd).1, c.toNat_lt⟩
    | none => exact ⟨h, Nat.zero_lt_succ _⟩
  · exact ⟨h, Nat.zero_lt_succ _⟩
theorem rdTxt_at {m : Nat} {l : List UInt8} {a : Nat} : (rdTxt m l a).2.1 ≤ l.length ∧ (rdTxt m l a).1.length ≤ m := by
  unfold rdTxt
  cases hd : rdVar (l.drop a) 0 0 with
  | form => exact ⟨Nat.zero_le _, Nat.zero_le _⟩
  | short => exact ⟨Nat.zero_le _, Nat.zero_le _⟩
  | ok v n =>
    have h1 := rdVar_len _ _ _ _ _ hd
    rw [List.length_drop] at h1
    dsimp only
    split
    · exact ⟨Nat.zero_le _, Nat.zero_le _⟩
    · split
      · exact ⟨Nat.zero_le _, Nat.zero_le _⟩
      · exact ⟨by show a + n + v ≤ _; omega, by simp only [List.length_take]; omega⟩
theorem rText_at {m : Nat} {l : List UInt8} {s : Nat × Nat} (h : s.1 ≤ l.length) : (rText m l s).2.1 ≤ l.length ∧ (rText m l s).1.length ≤ m := by
  unfold rText
  split
  · split
    · exact rdTxt_at
    · exact ⟨h, Nat.zero_le _⟩
  · exact ⟨h, Nat.zero_le _⟩

/-- the next change -/
@[irreducible] def rRef (l : List UInt8) (s : Nat × Nat) : (Nat × Nat × Nat) × Nat × Nat :=
  (((rNum l s).1, (rMost 4611686018427387904 l (rNum l s).2).1, (rMost 4611686018427387904 l (rMost 4611686018427387904 l (rNum l s).2).2).1), (rMost 4611686018427387904 l (rMost 4611686018427387904 l (rNum l s).2).2).2)
@[irreducible] def rKind (s : Nat × Nat × Nat) : Nat × Nat := if s.1 > 1 then (s.2.1, 11) else s.2
@[irreducible] def rChange (l : List UInt8) (s : Nat × Nat) : Cg × Nat × Nat :=
  if (rByte l (rText 64 l s).2).1 = 1 then (⟨⟨(rText 64 l s).1.toArray⟩, 0, 0, 0, true⟩, (rByte l (rText 64 l s).2).2)
  else (⟨⟨(rText 64 l s).1.toArray⟩, (rRef l (rKind (rByte l (rText 64 l s).2))).1.1, (rRef l (rKind (rByte l (rText 64 l s).2))).1.2.1, (rRef l (rKind (rByte l (rText 64 l s).2))).1.2.2, false⟩, (rRef l (rKind (rByte l (rText 64 l s).2))).2)
def rChanges (l : List UInt8) : Nat → Nat × Nat → List Cg × Nat × Nat
  | 0, s => ([], s)
  | n + 1, s => if s.2 = 0 then ((rChange l s).1 :: (rChanges l n (rChange l s).2).1, (rChanges l n (rChange l s).2).2) else ([], s)
theorem rNum_err {l : List UInt8} {a e : Nat} (h : e ≠ 0) : rNum l (a, e) = (0, a, e) := by unfold rNum; rw [if_neg h]
theorem rMost_err {m : Nat} {l : List UInt8} {a e : Nat} (h : e ≠ 0) : rMost m l (a, e) = (0, a, e) := by unfold rMost; rw [rNum_err h]; simp
theorem rRef_err {l : List UInt8} {a e : Nat} (h : e ≠ 0) : rRef l (a, e) = ((0, 0, 0), a, e) := by unfold rRef; rw [rNum_err h]; simp only [rMost_err h]
theorem rRef_at {l : List UInt8} {s : Nat × Nat} (h : s.1 ≤ l.length) : (rRef l s).2.1 ≤ l.length ∧ (rRef l s).1.1 ≤ 18446744073709551615 := by
  have h1 := rNum_at h
  have h2 := rMost_at (m := 4611686018427387904) h1.1
  have h3 := rMost_at (m := 4611686018427387904) h2.1
  unfold rRef
  exact ⟨h3.1, h1.2.1⟩
theorem rChange_at {l : List UInt8} {s : Nat × Nat} (h : s.1 ≤ l.length) : (rChange l s).2.1 ≤ l.length := by
  unfold rChange
  have h1 := (rText_at (m := 64) h).1
  have h2 := (rByte_at h1).1
  split
  · exact h2
  · have h3 : (rKind (rByte l (rText 64 l s).2)).1 ≤ l.length := by unfold rKind; split <;> exact h2
    exact (rRef_at h3).1

/-! ### the reader in the heap -/
section
/-- the reader of b stands in block k -/
structure Rdg (h0 h : Mem) (k : Nat) (t : TypeId) (b : Sl) (l : List UInt8) (s : Nat × Nat) : Prop where
  bytes : BytesSl h0 b l
  x : Ext h0.size h0 h
  lo : h0.size ≤ k
  r : h[k]? = some (.cells #[sval b, .int .i64 (s.1 : Int), .int .i64 (s.2 : Int)] t (0, 0))
  len : l.length ≤ 140737488355328
  at_ : s.1 ≤ l.length
  cap : b.len ≤ b.cap
/-- all but one block is as it was -/
structure Kx (k : Nat) (h h' : Mem) : Prop where
  size : h.size ≤ h'.size
  block : ∀ j, j < h.size → j ≠ k → h'[j]? = h[j]?
theorem Kx.refl (k : Nat) (h : Mem) : Kx k h h := ⟨Nat.le_refl _, fun _ _ _ => rfl⟩
theorem Kx.trans {k : Nat} {h h' h'' : Mem} (a : Kx k h h') (b : Kx k h' h'') : Kx k h h'' := ⟨Nat.le_trans a.size b.size, fun j hj hk => (b.block j (Nat.lt_of_lt_of_le hj a.size) hk).trans (a.block j hj hk)⟩
theorem Kx.ext {k : Nat} {h h' : Mem} (x : Ext h.size h h') : Kx k h h' := ⟨x.size, fun j hj _ => x.block j hj⟩
theorem Kx.upd {k : Nat} {h h' : Mem} (u : Upd k h h') : Kx k h h' := ⟨Nat.le_of_eq u.size.symm, fun j _ hk => u.block j hk⟩
theorem Kx.thenUpd {k j : Nat} {h h' h'' : Mem} (a : Kx k h h') (u : Upd j h' h'') (hj : h.size ≤ j) : Kx k h h'' := ⟨Nat.le_trans a.size (Nat.le_of_eq u.size.symm), fun i hi hk => (u.block i (by omega)).trans (a.block i hi hk)⟩
theorem Kx.toExt {k B : Nat} {h h' : Mem} (a : Kx k h h') (hB : B ≤ k) (hs : B ≤ h.size) : Ext B h h' := ⟨a.size, fun j hj => a.block j (by omega) (by omega)⟩
variable {h0 h : Mem} {k : Nat} {t : TypeId} {b : Sl} {l : List UInt8} {s : Nat × Nat}
theorem Rdg.lt (g : Rdg h0 h k t b l s) : k < h.size := (Array.getElem?_eq_some_iff.1 g.r).1
theorem Rdg.ext {h' : Mem} (g : Rdg h0 h k t b l s) (x : Ext h.size h h') : Rdg h0 h' k t b l s := ⟨g.bytes, g.x.after x, g.lo, (x.block _ g.lt).trans g.r, g.len, g.at_, g.cap⟩
theorem Rdg.cells (g : Rdg h0 h k t b l s) : BytesSl h b l := g.bytes.ext g.x
theorem und_errno : PG.underlying ty_api_Errno = some (.int .i64) := by kernel_rfl
theorem agg_errno : isAggB PG ty_api_Errno = false := by kernel_rfl
theorem Ld.e {a : Addr} {n : Int} {K : Int → Prop} (hc : cellAt h a = some (.int .i64 n)) (hk : K n) : Ld PG ty_api_Errno a (.one (.leaf (.int .i64))) h K := Ld.cell (l := .int .i64) und_errno agg_errno hc hk
theorem Rdg.ldE (g : Rdg h0 h k t b l s) {K : Int → Prop} (hk : K (s.2 : Int)) : Ld PG ty_api_Errno ((⟨k, 0, none⟩ : Addr).add 2) (.one (.leaf (.int .i64))) h K := Ld.e (by rw [add_off]; exact row_cell g.r rfl) hk
theorem Rdg.ldA (g : Rdg h0 h k t b l s) {K : Int → Prop} (hk : K (s.1 : Int)) : Ld PG ty_int ((⟨k, 0, none⟩ : Addr).add 1) (.one (.leaf (.int .i64))) h K := Ld.i (by rw [add_off]; exact row_cell g.r rfl) hk
theorem Rdg.ldB (g : Rdg h0 h k t b l s) {K : Sl → Prop} (hk : K b) : Ld PG ty_sl_uint8 ⟨k, 0, none⟩ (.one (.leaf .sl)) h K := Ld.bytes (row_cell g.r rfl) hk
theorem Rdg.stE (g : Rdg h0 h k t b l s) {e : Nat} {K : Mem → Prop} (hk : ∀ h', Kx k h h' → Rdg h0 h' k t b l (s.1, e) → K h') : St PG ty_api_Errno ((⟨k, 0, none⟩ : Addr).add 2) (.int .i64 (e : Int)) h K := by
  rw [add_off]
  refine St.row und_errno (vs := [.int .i64 (e : Int)]) rfl (by kernel_rfl) (by intro u hu; simp only [List.mem_cons, List.not_mem_nil, or_false] at hu; subst hu; rfl) g.r (show 3 ≤ 3 by decide) fun h' u r => ?_
  exact hk h' (.upd u) ⟨g.bytes, g.x.trans (u.ext g.lo), g.lo, r, g.len, g.at_, g.cap⟩
theorem Rdg.stA (g : Rdg h0 h k t b l s) {a : Nat} (ha : a ≤ l.length) {K : Mem → Prop} (hk : ∀ h', Kx k h h' → Rdg h0 h' k t b l (a, s.2) → K h') : St PG ty_int ((⟨k, 0, none⟩ : Addr).add 1) (.int .i64 (a : Int)) h K := by
  rw [add_off]
  refine St.row und_i (vs := [.int .i64 (a : Int)]) rfl (by kernel_rfl) (by intro u hu; simp only [List.mem_cons, List.not_mem_nil, or_false] at hu; subst hu; rfl) g.r (show 2 ≤ 3 by decide) fun h' u r => ?_
  exact hk h' (.upd u) ⟨g.bytes, g.x.trans (u.ext g.lo), g.lo, r, g.len, ha, g.cap⟩

/-! ### texts -/
theorem BytesSl.part {a n : Nat} (g : BytesSl h b l) (hc : b.len ≤ b.cap) (h1 : a + n ≤ l.length) {K : Sl → Prop} (hk : ∀ s', BytesSl h s' ((l.drop a).take n) → K s') : Cut 1 b.a b.len b.cap (some (a : Int)) (some ((a + n : Nat) : Int)) none K := by
  have hl := g.len
  refine Cut.both (by omega) (by omega) (hk _ ⟨?_, ?_, fun hn => ?_⟩)
  · show a + n - a = _
    rw [List.length_take, List.length_drop]; omega
  · unfold cutSl
    dsimp only
    have hat := g.at_
    split
    · have : n = 0 := by omega
      subst this
      cases hb : b.a with
      | none => simp [BytesAt]
      | some p => intro i y hy; simp at hy
    · cases hb : b.a with
      | none =>
        rw [hb] at hat
        have hat : l = [] := hat
        subst hat
        simp [BytesAt]
      | some p =>
        rw [hb] at hat
        intro i y hy
        rw [Nat.mul_one, add_add']
        rw [List.getElem?_take] at hy
        split at hy
        · rw [List.getElem?_drop] at hy
          exact hat _ _ hy
        · cases hy
  · unfold cutSl at hn ⊢
    dsimp only at hn ⊢
    split at hn
    · have := g.nil hn; omega
    · cases hb : b.a with
      | none => have := g.nil hb; omega
      | some p => rw [hb] at hn; cases hn

theorem rd_cases (r : Rd) : (∃ v n, r = .ok v n) ∨ r = .form ∨ r = .short := by
  cases r
  · exact .inl ⟨_, _, rfl⟩
  · exact .inr (.inl rfl)
  · exact .inr (.inr rfl)
theorem ct_word_ReadText {at' most : Nat} {Q : Sl → Int → Int → Mem → Prop} (hb : BytesSl h b l) (hc : b.len ≤ b.cap) (hl : l.length ≤ 140737488355328) (hat : at' ≤ l.length) (hm : most ≤ 1000000)
    (q : ∀ s' h', Ext h.size h h' → OwnB h' h.size ty_uint8 s' (rdTxt most l at').1 → Q s' (rdTxt most l at').2.1 (rdTxt most l at').2.2 h') :
    CallF PG fn_word_ReadText [sval b, .int .i64 (at' : Int), .int .i64 (most : Int)] (.tup [.leaf .sl, .leaf (.int .i64), .leaf (.int .i64)]) h Q := by
  refine call_word_ReadText (b := b) (ct_word_ReadVar hb hl (by omega) fun h4 x4 => ?_)
  have hlen := hb.len
  unfold rdTxt at q
  rcases rd_cases (rdVar (l.drop at') 0 0) with ⟨v, n, hd⟩ | hd | hd
  · have h1 := rdVar_len _ _ _ _ _ hd
    have h2 := rdVar_top _ _ _ _ _ (by decide) (by decide) hd
    rw [List.length_drop] at h1
    rw [hd] at q ⊢
    dsimp only [rdOut] at q ⊢
    refine Br.f rfl (Br.mk (fun e => ?_) fun e => Br.mk (fun e2 => ?_) fun e2 => ?_)
    · simp only [gt_iff_lt, decide_eq_true_eq] at e
      rw [if_neg (by omega), u64_eq (by omega)] at e
      rw [if_pos (by omega)] at q
      exact q _ h4 x4 (Owns.nil _ _ _ _)
    all_goals
      simp only [gt_iff_lt, decide_eq_false_iff_not] at e
      rw [if_neg (by omega), u64_eq (by omega)] at e
      rw [if_neg (by omega)] at q
      simp only [gt_iff_lt, decide_eq_true_eq, decide_eq_false_iff_not] at e2
      rw [hlen, i64_eq (by omega) (by omega), show ((l.length : Nat) : Int) - ((at' + n : Nat) : Int) = ((l.length - (at' + n) : Nat) : Int) by omega, u64_eq (by omega)] at e2
    · rw [if_pos (by omega)] at q
      exact q _ h4 x4 (Owns.nil _ _ _ _)
    · rw [if_neg (by omega)] at q
      rw [show IntKind.i64.wrap (((at' + n : Nat) : Int) + IntKind.i64.wrap (v : Int)) = ((at' + n + v : Nat) : Int) by rw [i64_eq (n := (v : Int)) (by omega) (by omega), i64_eq (by omega) (by omega)]; omega]
      have b4 := hb.ext x4
      exact BytesSl.part b4 hc (by omega) fun s5 b5 => ct_Clone b5 (by rw [List.length_take, List.length_drop]; omega) fun s6 h7 x7 o7 => q s6 h7 (x4.after x7) (Owns.base o7 x4.size)
  · rw [hd] at q ⊢
    exact Br.t rfl (q _ h4 x4 (Owns.nil _ _ _ _))
  · rw [hd] at q ⊢
    exact Br.t rfl (q _ h4 x4 (Owns.nil _ _ _ _))
end
end Go.Dn.W

set_option linter.unusedVariables false
namespace Go.Dn.W
open Go Go.Dn Go.Proofs

section
variable {h0 h : Mem} {k : Nat} {t : TypeId} {b : Sl} {l : List UInt8} {s : Nat × Nat}
theorem part_eq' {n v : Nat} {c : UInt8} (hn : n ≤ 9) (hv : v < 2 ^ (7 * n)) (hb : rdBad n c = false) :
    bitsOf BinOp.or IntKind.u64 (v : Int) (IntKind.u64.wrap (IntKind.u64.wrap (bitsOf BinOp.and IntKind.u8 (c.toNat : Int) 127) * 2 ^ shN IntKind.u64 (IntKind.u64.wrap (7 * IntKind.u64.wrap (n : Int))))) = ((v + c.toNat % 128 * 2 ^ (7 * n) : Nat) : Int) := by
  have e : IntKind.u64.wrap (7 * IntKind.u64.wrap (n : Int)) = IntKind.i64.wrap (7 * (n : Int)) := by
    rw [u64_eq (by omega), i64_eq (by omega) (by omega), show (7 : Int) * (n : Int) = ((7 * n : Nat) : Int) by omega, u64_eq (by omega)]
  rw [e]
  exact part_eq hn hv hb
theorem rv2_br {c : UInt8} {z : Bool} {n v : Nat} {A B : Prop} (hz : decide ((c.toNat : Int) < 128) = z) (hn : n ≤ 9) (hv : v < 2 ^ (7 * n)) (hb : rdBad n c = false) (qa : c.toNat < 128 → A) (qb : 128 ≤ c.toNat → n + 1 ≤ 9 → v + c.toNat % 128 * 2 ^ (7 * n) < 2 ^ (7 * (n + 1)) → B) :
    Chk (decide (0 ≤ IntKind.u64.wrap (7 * IntKind.u64.wrap (n : Int)))) (Br z A B) := by
  have ec : decide (0 ≤ IntKind.u64.wrap (7 * IntKind.u64.wrap (n : Int))) = true := by
    rw [u64_eq (by omega), show (7 : Int) * (n : Int) = ((7 * n : Nat) : Int) by omega, u64_eq (by omega)]
    exact decide_eq_true (by omega)
  refine Chk.mk ec (Br.mk (fun e => qa ?_) fun e => ?_)
  · rw [e] at hz; have := of_decide_eq_true hz; omega
  · rw [e] at hz
    have e := of_decide_eq_false hz
    have hp : 2 ^ (7 * (n + 1)) = 128 * 2 ^ (7 * n) := by rw [show 7 * (n + 1) = 7 * n + 7 by omega, Nat.pow_add, Nat.mul_comm]
    have hx : c.toNat % 128 * 2 ^ (7 * n) ≤ 127 * 2 ^ (7 * n) := Nat.mul_le_mul_right _ (by omega)
    refine qb (by omega) ?_ (by rw [hp]; omega)
    rcases Nat.lt_or_eq_of_le hn with h | rfl
    · omega
    · exfalso
      unfold rdBad at hb
      simp only [decide_true, Bool.true_and, Bool.or_eq_false_iff, decide_eq_false_iff_not] at hb
      omega
theorem ct_ref_ReadVar {at' : Nat} {Q : Int → Int → Int → Mem → Prop} (hb : BytesSl h b l) (hl : l.length ≤ 140737488355328) (hat : at' ≤ 140737488355328)
    (q : Q (rdOut (rdVar (l.drop at') 0 0) at').1 (rdOut (rdVar (l.drop at') 0 0) at').2.1 (rdOut (rdVar (l.drop at') 0 0) at').2.2 h) :
    CallF PG fn_dunnageref01_ReadVar [sval b, .int .i64 (at' : Int)] (.tup [.leaf (.int .u64), .leaf (.int .i64), .leaf (.int .i64)]) h Q := by
  have hlen := hb.len
  refine call_dunnageref01_ReadVar (b := b) (Br.f (by simp) ⟨fun v i h' => ∃ (v' i' : Nat), v = (v' : Int) ∧ i = (i' : Int) ∧ i' ≤ 9 ∧ v' < 2 ^ (7 * i') ∧ rdVar (l.drop (at' + i')) i' v' = rdVar (l.drop at') 0 0 ∧ h' = h, fun _ i _ => 10 - i.toNat, ⟨0, 0, rfl, rfl, by omega, by decide, rfl, rfl⟩, ?_⟩)
  rintro _ _ _ h6 ⟨v, i, rfl, rfl, hi, hv, hrd, rfl⟩
  refine Br.t (by simp; omega) ⟨fun z h' => z = decide (l.length ≤ at' + i) ∧ h' = h6, ?_, ?_⟩
  · rintro _ z h10 ⟨rfl, rfl⟩
    refine Br.mk (fun e => ?_) fun e => ?_
    · simp only [decide_eq_true_eq] at e
      rw [← hrd, List.drop_eq_nil_of_le e] at q
      exact q
    · simp only [decide_eq_false_iff_not] at e
      obtain ⟨c, hc⟩ : ∃ c, l[at' + i]? = some c := ⟨_, List.getElem?_eq_getElem (by omega)⟩
      have hdr : l.drop (at' + i) = c :: l.drop (at' + i + 1) := by
        obtain ⟨hlt, rfl⟩ := List.getElem?_eq_some_iff.1 hc
        exact List.drop_eq_getElem_cons hlt
      obtain ⟨ba, hba⟩ : ∃ a, b.a = some a := by
        cases hh : b.a with
        | none => have := hb.at_; rw [hh] at this; rw [show l = [] from this] at hc; simp at hc
        | some a => exact ⟨a, rfl⟩
      have ei : IntKind.i64.wrap ((at' : Int) + (i : Int)) = ((at' + i : Nat) : Int) := by rw [i64_eq (by omega) (by omega)]; omega
      have hcell := hb.at_
      rw [hba] at hcell
      rw [hdr] at hrd
      rw [ei]
      refine Idx.mk hba (by omega) ?_
      rw [nat_mul, Nat.mul_one]
      refine Ld.cell (l := .int .u8) (x := (c.toNat : Int)) und_b agg_b (hcell _ c hc) ⟨fun z h' => z = (decide (i = 9) && decide (c.toNat > 1)) ∧ h' = h10, ?_, ?_⟩
      · rintro _ z h16 ⟨rfl, rfl⟩
        have bad : rdBad i c = true → Q 0 0 11 h16 := fun hb => by
          rw [← hrd, rdVar, if_pos hb] at q
          exact q
        have qq : rdBad i c = false → c.toNat < 128 → Q ((v + c.toNat % 128 * 2 ^ (7 * i) : Nat) : Int) ((at' + (i + 1) : Nat) : Int) 0 h16 := fun hb hc' => by
          rw [← hrd, rdVar, if_neg (by rw [hb]; decide), if_neg (by omega)] at q
          exact q
        have ii : rdBad i c = false → 128 ≤ c.toNat → rdVar (l.drop (at' + (i + 1))) (i + 1) (v + c.toNat % 128 * 2 ^ (7 * i)) = rdVar (l.drop at') 0 0 := fun hb hc' => by
          rw [← hrd, rdVar, if_neg (by rw [hb]; decide), if_pos hc']; rfl
        refine Br.mk (fun e1 => bad ?_) fun e1 => Br.mk (fun e2 => Br.mk (fun e3 => bad ?_) fun e3 => ?_) fun e2 => ?_
        · unfold rdBad; rw [e1]; rfl
        · unfold rdBad
          simp only [gt_iff_lt, beq_iff_eq, decide_eq_true_eq] at e2 e3
          rw [decide_eq_true (show i > 0 by omega), decide_eq_true (show c.toNat = 0 by omega)]; simp
        · have hb : rdBad i c = false := by
            unfold rdBad
            simp only [beq_eq_false_iff_ne, ne_eq] at e3
            rw [e1, decide_eq_false (show ¬ c.toNat = 0 by omega)]; simp
          rw [part_eq' hi hv hb, wrap_succ (m := at' + i) (by omega), wrap_succ (m := i) (by omega)]
          generalize hz : decide ((c.toNat : Int) < 128) = z
          exact rv2_br hz hi hv hb (qq hb) fun hc' h9 hv' => ⟨⟨_, i + 1, rfl, rfl, h9, hv', ii hb hc', rfl⟩, by simp only [Int.toNat_natCast]; omega⟩
        · have hb : rdBad i c = false := by
            unfold rdBad
            simp only [gt_iff_lt, decide_eq_false_iff_not] at e2
            rw [e1, decide_eq_false (show ¬ i > 0 by omega)]; rfl
          rw [part_eq' hi hv hb, wrap_succ (m := at' + i) (by omega), wrap_succ (m := i) (by omega)]
          generalize hz : decide ((c.toNat : Int) < 128) = z
          exact rv2_br hz hi hv hb (qq hb) fun hc' h9 hv' => ⟨⟨_, i + 1, rfl, rfl, h9, hv', ii hb hc', rfl⟩, by simp only [Int.toNat_natCast]; omega⟩
      · refine Br.mk (fun e1 => ⟨?_, rfl⟩) fun e1 => ⟨?_, rfl⟩
        · simp only [beq_iff_eq] at e1
          rw [decide_eq_true (show i = 9 by omega), Bool.true_and]
          exact decide_eq_decide.2 (by omega)
        · simp only [beq_eq_false_iff_ne, ne_eq] at e1
          rw [decide_eq_false (show ¬ i = 9 by omega), Bool.false_and]
  · have ei : IntKind.i64.wrap ((at' : Int) + (i : Int)) = ((at' + i : Nat) : Int) := by rw [i64_eq (by omega) (by omega)]; omega
    rw [ei, hlen]
    refine Br.mk (fun e1 => ⟨?_, rfl⟩) fun e1 => ⟨decide_eq_decide.2 (by omega), rfl⟩
    simp only [ge_iff_le, decide_eq_true_eq] at e1
    exact (decide_eq_true (by omega)).symm

theorem ct_ref_ReadVar3 {at' : Nat} {Q : Int → Int → Int → Mem → Prop} (hb : BytesSl h b l) (hl : l.length ≤ 140737488355328) (hat : at' ≤ 140737488355328)
    (qo : ∀ v n, rdVar (l.drop at') 0 0 = .ok v n → Q (v : Int) ((at' + n : Nat) : Int) 0 h) (qf : rdVar (l.drop at') 0 0 = .form → Q 0 0 11 h) (qs : rdVar (l.drop at') 0 0 = .short → Q 0 0 10 h) :
    CallF PG fn_dunnageref01_ReadVar [sval b, .int .i64 (at' : Int)] (.tup [.leaf (.int .u64), .leaf (.int .i64), .leaf (.int .i64)]) h Q := by
  refine ct_ref_ReadVar hb hl hat ?_
  rcases rd_cases (rdVar (l.drop at') 0 0) with ⟨v, n, hd⟩ | hd | hd
  · rw [hd]; exact qo v n hd
  · rw [hd]; exact qf hd
  · rw [hd]; exact qs hd

theorem rdTxt_ok {m a v n : Nat} (hd : rdVar (l.drop a) 0 0 = .ok v n) : rdTxt m l a = if v > m then ([], 0, 4) else if v > l.length - (a + n) then ([], 0, 10) else ((l.drop (a + n)).take v, a + n + v, 0) := by unfold rdTxt; rw [hd]
theorem ct_ref_ReadText {at' most : Nat} {Q : Sl → Int → Int → Mem → Prop} (hb : BytesSl h b l) (hc : b.len ≤ b.cap) (hl : l.length ≤ 140737488355328) (hat : at' ≤ l.length) (hm : most ≤ 1000000)
    (q : ∀ s' h', Ext h.size h h' → OwnB h' h.size ty_uint8 s' (rdTxt most l at').1 → Q s' (rdTxt most l at').2.1 (rdTxt most l at').2.2 h') :
    CallF PG fn_dunnageref01_ReadText [sval b, .int .i64 (at' : Int), .int .i64 (most : Int)] (.tup [.leaf .sl, .leaf (.int .i64), .leaf (.int .i64)]) h Q := by
  have hlen := hb.len
  refine call_dunnageref01_ReadText (b := b) (ct_ref_ReadVar3 hb hl (by omega) (fun v n hd => ?_) (fun hd => ?_) fun hd => ?_)
  · have h1 := rdVar_len _ _ _ _ _ hd
    have h2 := rdVar_top _ _ _ _ _ (by decide) (by decide) hd
    rw [List.length_drop] at h1
    rw [rdTxt_ok hd] at q
    have em : (if (most : Int) > 0 then (most : Int) else 0) = (most : Int) := by split <;> omega
    refine Br.f rfl ?_
    rw [em, u64_eq (by omega), hlen, i64_eq (n := (l.length : Int) - ((at' + n : Nat) : Int)) (by omega) (by omega), show (l.length : Int) - ((at' + n : Nat) : Int) = ((l.length - (at' + n) : Nat) : Int) by omega, u64_eq (n := l.length - (at' + n)) (by omega)]
    refine Br.mk (fun e => ?_) fun e => Br.mk (fun e2 => ?_) fun e2 => ?_
    · simp only [gt_iff_lt, decide_eq_true_eq] at e
      rw [if_pos (by omega)] at q
      exact q _ h (Ext.refl _ _) (Owns.nil _ _ _ _)
    · simp only [gt_iff_lt, decide_eq_false_iff_not] at e
      simp only [decide_eq_true_eq] at e2
      rw [if_neg (by omega), if_pos (by omega)] at q
      exact q _ h (Ext.refl _ _) (Owns.nil _ _ _ _)
    · simp only [gt_iff_lt, decide_eq_false_iff_not] at e
      simp only [decide_eq_false_iff_not] at e2
      rw [if_neg (by omega), if_neg (by omega)] at q
      rw [show IntKind.i64.wrap (((at' + n : Nat) : Int) + IntKind.i64.wrap (v : Int)) = ((at' + n + v : Nat) : Int) by rw [i64_eq (n := (v : Int)) (by omega) (by omega), i64_eq (by omega) (by omega)]; omega]
      exact BytesSl.part hb (by omega) (by omega) fun s5 b5 => append_bytes (s := ⟨none, 0, 0⟩) (xs := []) (v := s5) (B := h.size) (Nat.le_refl _) (Owns.nil h _ _ _) b5 (by rw [List.length_nil, List.length_take, List.length_drop]; omega) fun s6 h7 o7 g7 => q s6 h7 (g7.ext (Nat.le_refl _) fun a ha => by cases ha) o7
  · have : rdTxt most l at' = ([], 0, 11) := by unfold rdTxt; rw [hd]
    rw [this] at q
    exact Br.t rfl (q _ h (Ext.refl _ _) (Owns.nil _ _ _ _))
  · have : rdTxt most l at' = ([], 0, 10) := by unfold rdTxt; rw [hd]
    rw [this] at q
    exact Br.t rfl (q _ h (Ext.refl _ _) (Owns.nil _ _ _ _))

/-! ### the pen -/
theorem ct_fail {e : Nat} {Q : Mem → Prop} (g : Rdg h0 h k ty_batch_pen b l s) (h0' : s.2 = 0) (q : ∀ h', Kx k h h' → Rdg h0 h' k ty_batch_pen b l (s.1, e) → Q h') :
    CallF PG fn_batch_pen_fail [.pointer (some ⟨k, 0, none⟩), .int .i64 (e : Int)] (.tup []) h Q := by
  refine call_batch_pen_fail ?_
  show Ld _ _ _ _ _ _
  refine g.ldE (Br.t (by rw [h0']; rfl) ?_)
  show St _ _ _ _ _ _
  exact g.stE q
theorem rNum_ok {v n a : Nat} (hd : rdVar (l.drop a) 0 0 = .ok v n) : rNum l (a, 0) = (v, a + n, 0) := by unfold rNum; rw [if_pos rfl, hd]
theorem rNum_form {a : Nat} (hd : rdVar (l.drop a) 0 0 = .form) : rNum l (a, 0) = (0, a, 11) := by unfold rNum; rw [if_pos rfl, hd]
theorem rNum_short {a : Nat} (hd : rdVar (l.drop a) 0 0 = .short) : rNum l (a, 0) = (0, a, 10) := by unfold rNum; rw [if_pos rfl, hd]
theorem ct_pen_num {Q : Int → Mem → Prop} (g : Rdg h0 h k ty_batch_pen b l s) (q : ∀ h', Kx k h h' → Rdg h0 h' k ty_batch_pen b l (rNum l s).2 → Q (rNum l s).1 h') :
    CallF PG fn_batch_pen_num [.pointer (some ⟨k, 0, none⟩)] (.one (.leaf (.int .u64))) h Q := by
  obtain ⟨a, e⟩ := s
  have hat := g.at_
  have hl := g.len
  dsimp only at hat
  refine call_batch_pen_num ?_
  show Ld _ _ _ _ _ _
  refine g.ldE (Br.mk (fun e1 => ?_) fun e1 => ?_)
  · have e1 : e ≠ 0 := by rintro rfl; cases e1
    rw [rNum_err e1] at q
    exact q h (Kx.refl _ _) g
  · have e1 : e = 0 := by simpa using e1
    subst e1
    show Ld _ _ _ _ _ _
    refine g.ldB ?_
    show Ld _ _ _ _ _ _
    refine g.ldA (ct_word_ReadVar g.cells hl (by omega) fun h10 x10 => ?_)
    have g10 := g.ext x10
    rcases rd_cases (rdVar (l.drop a) 0 0) with ⟨v, n, hd⟩ | hd | hd
    · have h1 := rdVar_len _ _ _ _ _ hd
      rw [List.length_drop] at h1
      rw [rNum_ok hd] at q
      rw [hd]
      refine Br.f rfl ?_
      show St _ _ _ _ _ _
      exact g10.stA (a := a + n) (by omega) fun h13 k13 g13 => q h13 ((Kx.ext x10).trans k13) g13
    · rw [rNum_form hd] at q
      rw [hd]
      exact Br.t rfl (ct_fail (e := 11) g10 rfl fun h11 k11 g11 => q h11 ((Kx.ext x10).trans k11) g11)
    · rw [rNum_short hd] at q
      rw [hd]
      exact Br.t rfl (ct_fail (e := 10) g10 rfl fun h11 k11 g11 => q h11 ((Kx.ext x10).trans k11) g11)
theorem ct_pen_int {Q : Int → Mem → Prop} (g : Rdg h0 h k ty_batch_pen b l s) (q : ∀ h', Kx k h h' → Rdg h0 h' k ty_batch_pen b l (rMost 4611686018427387904 l s).2 → Q (rMost 4611686018427387904 l s).1 h') :
    CallF PG fn_batch_pen_int [.pointer (some ⟨k, 0, none⟩)] (.one (.leaf (.int .i64))) h Q := by
  obtain ⟨h1, h2, h3⟩ := rNum_at (l := l) g.at_
  unfold rMost at q
  refine call_batch_pen_int (ct_pen_num g fun h2 k2 g2 => Br.mk (fun e => ?_) fun e => ?_)
  · simp only [gt_iff_lt, decide_eq_true_eq] at e
    rw [if_pos (by omega)] at q
    exact ct_fail (e := 11) g2 (Decidable.byContradiction fun hh => by have := h3 hh; omega) fun h3 k3 g3 => q h3 (k2.trans k3) g3
  · simp only [gt_iff_lt, decide_eq_false_iff_not] at e
    rw [if_neg (by omega)] at q
    rw [i64_eq (by omega) (by omega)]
    exact q h2 k2 g2
theorem Rdg.idx (g : Rdg h0 h k t b l s) {a : Nat} {c : UInt8} {K : Int → Prop} (hc : l[a]? = some c) (hk : K (c.toNat : Int)) :
    Idx b.a b.len (a : Int) fun p => Ld PG ty_uint8 (p.add ((a : Int).toNat * 1)) (Kd.one (Cmp.leaf (Leaf.int IntKind.u8))) h K := by
  have hb := g.cells
  have hlt := (List.getElem?_eq_some_iff.1 hc).1
  obtain ⟨ba, hba⟩ : ∃ a, b.a = some a := by
    cases hh : b.a with
    | none => have := hb.at_; rw [hh] at this; rw [show l = [] from this] at hc; simp at hc
    | some a => exact ⟨a, rfl⟩
  have hcell := hb.at_
  rw [hba] at hcell
  refine Idx.mk hba (by rw [hb.len]; exact hlt) ?_
  rw [nat_mul, Nat.mul_one]
  exact Ld.cell (l := .int .u8) (x := (c.toNat : Int)) und_b agg_b (hcell _ c hc) hk
theorem rByte_ok {a : Nat} {c : UInt8} (hc : l[a]? = some c) : rByte l (a, 0) = (c.toNat, a + 1, 0) := by unfold rByte; rw [if_pos rfl, hc]
theorem rByte_none {a : Nat} (hc : l[a]? = none) : rByte l (a, 0) = (0, a, 10) := by unfold rByte; rw [if_pos rfl, hc]
theorem rByte_err {a e : Nat} (he : e ≠ 0) : rByte l (a, e) = (0, a, e) := by unfold rByte; rw [if_neg he]
theorem ct_pen_one {Q : Int → Mem → Prop} (g : Rdg h0 h k ty_batch_pen b l s) (q : ∀ h', Kx k h h' → Rdg h0 h' k ty_batch_pen b l (rByte l s).2 → Q (rByte l s).1 h') :
    CallF PG fn_batch_pen_one [.pointer (some ⟨k, 0, none⟩)] (.one (.leaf (.int .u8))) h Q := by
  obtain ⟨a, e⟩ := s
  have hat := g.at_
  have hl := g.len
  have hlen := g.bytes.len
  dsimp only at hat
  refine call_batch_pen_one ?_
  show Ld _ _ _ _ _ _
  refine g.ldE (Br.mk (fun e1 => ?_) fun e1 => ?_)
  · have e1 : e ≠ 0 := by rintro rfl; cases e1
    rw [rByte_err e1] at q
    exact q h (Kx.refl _ _) g
  · have e1 : e = 0 := by simpa using e1
    subst e1
    show Ld _ _ _ _ _ _
    refine g.ldA ?_
    show Ld _ _ _ _ _ _
    refine g.ldB (Br.mk (fun e2 => ?_) fun e2 => ?_)
    · simp only [ge_iff_le, decide_eq_true_eq] at e2
      rw [rByte_none (List.getElem?_eq_none (by omega))] at q
      exact ct_fail (e := 10) g rfl q
    · simp only [ge_iff_le, decide_eq_false_iff_not] at e2
      obtain ⟨c, hc⟩ : ∃ c, l[a]? = some c := ⟨_, List.getElem?_eq_getElem (by omega)⟩
      rw [rByte_ok hc] at q
      show Ld _ _ _ _ _ _
      refine g.ldA ?_
      rw [wrap_succ (by omega)]
      show St _ _ _ _ _ _
      refine g.stA (a := a + 1) (by omega) fun h11 k11 g11 => ?_
      show Ld _ _ _ _ _ _
      refine g11.ldB ?_
      show Ld _ _ _ _ _ _
      refine g11.ldA ?_
      rw [show IntKind.i64.wrap (((a + 1 : Nat) : Int) - 1) = (a : Int) by rw [i64_eq (by omega) (by omega)]; omega]
      exact g11.idx hc (q h11 k11 g11)
theorem rText_err {m a e : Nat} (he : e ≠ 0) : rText m l (a, e) = ([], a, e) := by unfold rText; rw [if_neg he]
theorem rText_bad {m a : Nat} (he : (rdTxt m l a).2.2 ≠ 0) : rText m l (a, 0) = ([], a, (rdTxt m l a).2.2) := by unfold rText; rw [if_pos rfl, if_neg he]
theorem rText_ok {m a : Nat} (he : (rdTxt m l a).2.2 = 0) : rText m l (a, 0) = rdTxt m l a := by unfold rText; rw [if_pos rfl, if_pos he]
theorem ct_pen_key {Q : ByteArray → Mem → Prop} (g : Rdg h0 h k ty_batch_pen b l s) (q : ∀ h', Kx k h h' → Rdg h0 h' k ty_batch_pen b l (rText 64 l s).2 → Q ⟨(rText 64 l s).1.toArray⟩ h') :
    CallF PG fn_batch_pen_key [.pointer (some ⟨k, 0, none⟩)] (.one (.leaf .str)) h Q := by
  obtain ⟨a, e⟩ := s
  have hat := g.at_
  have hl := g.len
  dsimp only at hat
  refine call_batch_pen_key ?_
  show Ld _ _ _ _ _ _
  refine g.ldE (Br.mk (fun e1 => ?_) fun e1 => ?_)
  · have e1 : e ≠ 0 := by rintro rfl; cases e1
    rw [rText_err e1] at q
    exact q h (Kx.refl _ _) g
  · have e1 : e = 0 := by simpa using e1
    subst e1
    show Ld _ _ _ _ _ _
    refine g.ldB ?_
    show Ld _ _ _ _ _ _
    refine g.ldA (ct_word_ReadText (most := 64) g.cells g.cap hl hat (by decide) fun s7 h10 x10 o10 => ?_)
    have g10 := g.ext x10
    refine Br.mk (fun e2 => ?_) fun e2 => ?_
    · have e2 : (rdTxt 64 l a).2.2 ≠ 0 := by intro h; rw [h] at e2; cases e2
      rw [rText_bad e2] at q
      exact ct_fail g10 rfl fun h11 k11 g11 => q h11 ((Kx.ext x10).trans k11) g11
    · have e2 : (rdTxt 64 l a).2.2 = 0 := by simpa using e2
      rw [rText_ok e2] at q
      show St _ _ _ _ _ _
      refine g10.stA (rdTxt_at (m := 64)).1 fun h13 k13 g13 => ?_
      have hk := g.lt
      have b13 : BytesSl h13 s7 (rdTxt 64 l a).1 := OwnB.bytes (Owns.kept o10 fun a ha => k13.block _ (Owns.blk o10 ha).2.1 (by have := (Owns.blk o10 ha).1; omega))
      refine read_bytes b13.len b13.at_ (q h13 ((Kx.ext x10).trans k13) ?_)
      rw [show (rdTxt 64 l a).2 = ((rdTxt 64 l a).2.1, 0) from Prod.ext rfl e2]
      exact g13

/-! ### the document's reader -/
theorem ct_rd_Num {Q : Int → Mem → Prop} (g : Rdg h0 h k ty_dunnageref01_Reader b l s) (q : ∀ h', Kx k h h' → Rdg h0 h' k ty_dunnageref01_Reader b l (rNum l s).2 → Q (rNum l s).1 h') :
    CallF PG fn_dunnageref01_Reader_Num [.pointer (some ⟨k, 0, none⟩)] (.one (.leaf (.int .u64))) h Q := by
  obtain ⟨a, e⟩ := s
  have hat := g.at_
  have hl := g.len
  dsimp only at hat
  refine call_dunnageref01_Reader_Num ?_
  show Ld _ _ _ _ _ _
  refine g.ldE (Br.mk (fun e1 => ?_) fun e1 => ?_)
  · have e1 : e ≠ 0 := by rintro rfl; cases e1
    rw [rNum_err e1] at q
    exact q h (Kx.refl _ _) g
  · have e1 : e = 0 := by simpa using e1
    subst e1
    show Ld _ _ _ _ _ _
    refine g.ldB ?_
    show Ld _ _ _ _ _ _
    refine g.ldA (ct_ref_ReadVar g.cells hl (by omega) ?_)
    rcases rd_cases (rdVar (l.drop a) 0 0) with ⟨v, n, hd⟩ | hd | hd
    · have h1 := rdVar_len _ _ _ _ _ hd
      rw [List.length_drop] at h1
      rw [rNum_ok hd] at q
      rw [hd]
      refine Br.f rfl ?_
      show St _ _ _ _ _ _
      exact g.stA (a := a + n) (by omega) q
    · rw [rNum_form hd] at q
      rw [hd]
      refine Br.t rfl ?_
      show St _ _ _ _ _ _
      exact g.stE (e := 11) q
    · rw [rNum_short hd] at q
      rw [hd]
      refine Br.t rfl ?_
      show St _ _ _ _ _ _
      exact g.stE (e := 10) q
theorem rMost_bad {m : Nat} (hm : (rNum l s).1 > m) : rMost m l s = (0, (rNum l s).2.1, 11) := by unfold rMost; rw [if_pos hm]
theorem rMost_ok {m : Nat} (hm : ¬ (rNum l s).1 > m) : rMost m l s = rNum l s := by unfold rMost; rw [if_neg hm]
theorem ct_rd_Most {m : Nat} {Q : Int → Mem → Prop} (g : Rdg h0 h k ty_dunnageref01_Reader b l s) (hm : m ≤ 4611686018427387904) (q : ∀ h', Kx k h h' → Rdg h0 h' k ty_dunnageref01_Reader b l (rMost m l s).2 → Q (rMost m l s).1 h') :
    CallF PG fn_dunnageref01_Reader_Most [.pointer (some ⟨k, 0, none⟩), .int .u64 (m : Int)] (.one (.leaf (.int .i64))) h Q := by
  obtain ⟨h1, h2, h3⟩ := rNum_at (l := l) g.at_
  refine call_dunnageref01_Reader_Most (ct_rd_Num g fun h2 k2 g2 => ?_)
  show Ld _ _ _ _ _ _
  refine g2.ldE (Br.mk (fun e => ?_) fun e => ?_)
  · have e : (rNum l s).2.2 = 0 := by simpa using e
    refine Br.mk (fun e2 => ?_) fun e2 => ?_
    · simp only [gt_iff_lt, decide_eq_true_eq] at e2
      rw [rMost_bad (by omega)] at q
      show St _ _ _ _ _ _
      refine g2.stE (e := 11) fun h6 k6 g6 => ?_
      show Ld _ _ _ _ _ _
      exact g6.ldE (Br.t rfl (q h6 (k2.trans k6) g6))
    · simp only [gt_iff_lt, decide_eq_false_iff_not] at e2
      rw [rMost_ok (by omega)] at q
      show Ld _ _ _ _ _ _
      refine g2.ldE (Br.f (by rw [e]; rfl) ?_)
      rw [i64_eq (by omega) (by omega)]
      exact q h2 k2 g2
  · have e : (rNum l s).2.2 ≠ 0 := by intro h; rw [h] at e; cases e
    have e0 := h3 e
    rw [rMost_ok (by omega), e0] at q
    show Ld _ _ _ _ _ _
    refine g2.ldE (Br.t (by simp only [bne_iff_ne, ne_eq]; omega) ?_)
    exact q h2 k2 g2
theorem ct_rd_Byte {Q : Int → Mem → Prop} (g : Rdg h0 h k ty_dunnageref01_Reader b l s) (q : ∀ h', Kx k h h' → Rdg h0 h' k ty_dunnageref01_Reader b l (rByte l s).2 → Q (rByte l s).1 h') :
    CallF PG fn_dunnageref01_Reader_Byte [.pointer (some ⟨k, 0, none⟩)] (.one (.leaf (.int .u8))) h Q := by
  obtain ⟨a, e⟩ := s
  have hat := g.at_
  have hl := g.len
  have hlen := g.bytes.len
  dsimp only at hat
  refine call_dunnageref01_Reader_Byte ?_
  show Ld _ _ _ _ _ _
  refine g.ldE (Br.mk (fun e1 => ?_) fun e1 => ?_)
  · have e1 : e ≠ 0 := by rintro rfl; cases e1
    rw [rByte_err e1] at q
    exact q h (Kx.refl _ _) g
  · have e1 : e = 0 := by simpa using e1
    subst e1
    show Ld _ _ _ _ _ _
    refine g.ldA ?_
    show Ld _ _ _ _ _ _
    refine g.ldB (Br.mk (fun e2 => ?_) fun e2 => ?_)
    · simp only [ge_iff_le, decide_eq_true_eq] at e2
      rw [rByte_none (List.getElem?_eq_none (by omega))] at q
      show St _ _ _ _ _ _
      exact g.stE (e := 10) q
    · simp only [ge_iff_le, decide_eq_false_iff_not] at e2
      obtain ⟨c, hc⟩ : ∃ c, l[a]? = some c := ⟨_, List.getElem?_eq_getElem (by omega)⟩
      rw [rByte_ok hc] at q
      show Ld _ _ _ _ _ _
      refine g.ldA ?_
      rw [wrap_succ (by omega)]
      show St _ _ _ _ _ _
      refine g.stA (a := a + 1) (by omega) fun h11 k11 g11 => ?_
      show Ld _ _ _ _ _ _
      refine g11.ldB ?_
      show Ld _ _ _ _ _ _
      refine g11.ldA ?_
      rw [show IntKind.i64.wrap (((a + 1 : Nat) : Int) - 1) = (a : Int) by rw [i64_eq (by omega) (by omega)]; omega]
      exact g11.idx hc (q h11 k11 g11)
theorem ct_rd_Text {Q : Sl → Mem → Prop} (g : Rdg h0 h k ty_dunnageref01_Reader b l s) (q : ∀ s' h', Kx k h h' → Rdg h0 h' k ty_dunnageref01_Reader b l (rText 64 l s).2 → BytesSl h' s' (rText 64 l s).1 → Q s' h') :
    CallF PG fn_dunnageref01_Reader_Text [.pointer (some ⟨k, 0, none⟩), .int .i64 64] (.one (.leaf .sl)) h Q := by
  obtain ⟨a, e⟩ := s
  have hat := g.at_
  have hl := g.len
  dsimp only at hat
  refine call_dunnageref01_Reader_Text ?_
  show Ld _ _ _ _ _ _
  refine g.ldE (Br.mk (fun e1 => ?_) fun e1 => ?_)
  · have e1 : e ≠ 0 := by rintro rfl; cases e1
    rw [rText_err e1] at q
    exact q _ h (Kx.refl _ _) g (BytesSl.isNil _)
  · have e1 : e = 0 := by simpa using e1
    subst e1
    show Ld _ _ _ _ _ _
    refine g.ldB ?_
    show Ld _ _ _ _ _ _
    refine g.ldA (ct_ref_ReadText (most := 64) g.cells g.cap hl hat (by decide) fun s7 h10 x10 o10 => ?_)
    have g10 := g.ext x10
    refine Br.mk (fun e2 => ?_) fun e2 => ?_
    · have e2 : (rdTxt 64 l a).2.2 ≠ 0 := by intro h; rw [h] at e2; cases e2
      rw [rText_bad e2] at q
      show St _ _ _ _ _ _
      exact g10.stE fun h11 k11 g11 => q _ h11 ((Kx.ext x10).trans k11) g11 (BytesSl.isNil _)
    · have e2 : (rdTxt 64 l a).2.2 = 0 := by simpa using e2
      rw [rText_ok e2] at q
      show St _ _ _ _ _ _
      refine g10.stA (rdTxt_at (m := 64)).1 fun h13 k13 g13 => ?_
      have hk := g.lt
      have b13 : BytesSl h13 s7 (rdTxt 64 l a).1 := OwnB.bytes (Owns.kept o10 fun a ha => k13.block _ (Owns.blk o10 ha).2.1 (by have := (Owns.blk o10 ha).1; omega))
      refine q _ h13 ((Kx.ext x10).trans k13) ?_ b13
      rw [show (rdTxt 64 l a).2 = ((rdTxt 64 l a).2.1, 0) from Prod.ext rfl e2]
      exact g13
theorem ct_rd_Left {Q : Int → Mem → Prop} (g : Rdg h0 h k ty_dunnageref01_Reader b l s) (q : Q ((l.length - s.1 : Nat) : Int) h) :
    CallF PG fn_dunnageref01_Reader_Left [.pointer (some ⟨k, 0, none⟩)] (.one (.leaf (.int .i64))) h Q := by
  have hat := g.at_
  have hl := g.len
  have hlen := g.bytes.len
  refine call_dunnageref01_Reader_Left ?_
  show Ld _ _ _ _ _ _
  refine g.ldB ?_
  show Ld _ _ _ _ _ _
  refine g.ldA ?_
  rw [hlen, i64_eq (by omega) (by omega), show (l.length : Int) - (s.1 : Int) = ((l.length - s.1 : Nat) : Int) by omega]
  exact q
end
end Go.Dn.W

set_option linter.unusedVariables false
namespace Go.Dn.W
open Go Go.Dn Go.Proofs

/-- what a record of each kind reads -/
def rBatch (l : List UInt8) (s : Nat × Nat) : (Rc × List Cg) × Nat × Nat :=
  ((⟨1, ((rNum l s).1 : Int), 0, 0, 0, 0⟩, (rChanges l (rMost 32 l (rNum l s).2).1 (rMost 32 l (rNum l s).2).2).1), (rChanges l (rMost 32 l (rNum l s).2).1 (rMost 32 l (rNum l s).2).2).2)
def rFour (l : List UInt8) (s : Nat × Nat) : (Nat × Nat × Nat × Nat) × Nat × Nat :=
  (((rNum l s).1, (rMost 4611686018427387904 l (rNum l s).2).1, (rMost 4611686018427387904 l (rMost 4611686018427387904 l (rNum l s).2).2).1, (rMost 4611686018427387904 l (rMost 4611686018427387904 l (rMost 4611686018427387904 l (rNum l s).2).2).2).1),
    (rMost 4611686018427387904 l (rMost 4611686018427387904 l (rMost 4611686018427387904 l (rNum l s).2).2).2).2)
def rMove (l : List UInt8) (s : Nat × Nat) : (Rc × List Cg) × Nat × Nat := ((⟨2, 0, ((rFour l s).1.1 : Int), ((rFour l s).1.2.1 : Int), ((rFour l s).1.2.2.1 : Int), ((rFour l s).1.2.2.2 : Int)⟩, []), (rFour l s).2)
def rRaw (l : List UInt8) : (Rc × List Cg) × Nat × Nat :=
  if (rByte l (0, 0)).2.2 = 0 then
    if (rByte l (0, 0)).1 = 1 then rBatch l (rByte l (0, 0)).2
    else if (rByte l (0, 0)).1 = 2 then rMove l (rByte l (0, 0)).2
    else ((⟨((rByte l (0, 0)).1 : Int), 0, 0, 0, 0, 0⟩, []), ((rByte l (0, 0)).2.1, 11))
  else ((⟨((rByte l (0, 0)).1 : Int), 0, 0, 0, 0, 0⟩, []), (rByte l (0, 0)).2)

section
variable {h0 h : Mem} {k : Nat} {tt : TypeId} {b : Sl} {l : List UInt8} {s : Nat × Nat}
def RecC (h : Mem) (kr : Nat) (r : Rc) (t : Sl) : Prop := h[kr]? = some (.cells (rcs r t).toArray ty_api_Record (0, 0))
theorem RecC.lt {kr : Nat} {r : Rc} {t : Sl} (x : RecC h kr r t) : kr < h.size := (Array.getElem?_eq_some_iff.1 x).1
theorem RecC.kx {kr : Nat} {r : Rc} {t : Sl} {h' : Mem} (x : RecC h kr r t) (hne : kr ≠ k) (y : Kx k h h') : RecC h' kr r t := (y.block kr x.lt hne).trans x
theorem RecC.ext {kr : Nat} {r : Rc} {t : Sl} {h' : Mem} (x : RecC h kr r t) (y : Ext h.size h h') : RecC h' kr r t := (y.block kr x.lt).trans x
theorem OwnL.kx {B' B : Nat} {t : Sl} {cs : List Cg} {h' : Mem} {c : Array Value} {fz : Nat × Nat} (x : OwnL ty_api_Change 5 ECg h B' B t cs) (hk : h[k]? = some (.cells c tt fz)) (ht : tt ≠ ty_api_Change) (y : Kx k h h') : OwnL ty_api_Change 5 ECg h' B' B t cs := by
  obtain ⟨css, ow, hh⟩ := x
  refine ⟨css, Owns.kept ow fun a ha => y.block _ (Owns.blk ow ha).2.1 fun e => ?_, ⟨hh.len, hh.width, hh.one, hh.is⟩⟩
  obtain ⟨_, _, c', hc'⟩ := Owns.blk ow ha
  rw [e, hk] at hc'
  cases hc'
  exact ht rfl
theorem one_rcs (r : Rc) (t : Sl) : ∀ u ∈ rcs r t, u.oneCell' = true := by
  intro u hu
  simp only [rcs, rcells, List.mem_cons, List.not_mem_nil, or_false] at hu
  rcases hu with rfl | rfl | rfl | rfl | rfl | rfl | rfl <;> rfl
theorem St.rec {kr : Nat} {c0 : Array Value} {r : Rc} {t : Sl} {K : Mem → Prop} (hr : h[kr]? = some (.cells c0 ty_api_Record (0, 0))) (h7 : c0.size = 7) (hk : ∀ h', Upd kr h h' → RecC h' kr r t → K h') :
    St PG ty_api_Record ⟨kr, 0, none⟩ (.agg #[.int .i64 r.kind, .int .u64 r.seq, sval t, .int .u64 r.ms, .int .i64 r.mf, .int .i64 r.mt, .int .i64 r.mn]) h K := by
  obtain ⟨d, hd⟩ := und_rec
  refine St.row hd (vs := rcs r t) rfl sz_rec (one_rcs r t) hr (by rw [h7]; exact Nat.le_refl 7) fun h' u r' => hk h' u ?_
  unfold RecC
  rw [r']
  congr 2
  apply Array.ext'
  simp only [List.take_zero, List.nil_append]
  rw [List.drop_eq_nil_of_le (by rw [Array.length_toList, h7]; exact Nat.le_refl 7), List.append_nil]
theorem RecC.ld {kr : Nat} {r : Rc} {t : Sl} (x : RecC h kr r t) {K : Int → Int → Sl → Int → Int → Int → Int → Prop} (hk : K r.kind r.seq t r.ms r.mf r.mt r.mn) :
    Ld PG ty_api_Record ⟨kr, 0, none⟩ (.one (.agg [.int .i64, .int .u64, .sl, .int .u64, .int .i64, .int .i64, .int .i64])) h K := Ld.rec (Cells.whole (cs := rcs r t) x) hk
theorem RecC.chs {kr : Nat} {r : Rc} {t : Sl} (x : RecC h kr r t) {K : Sl → Prop} (hk : K t) : Ld PG ty_sl_api_Change ((⟨kr, 0, none⟩ : Addr).add 2) (.one (.leaf .sl)) h K := Ld.chs (by rw [add_off]; exact row_cell x rfl) hk
theorem RecC.kind {kr : Nat} {r : Rc} {t : Sl} (x : RecC h kr r t) {K : Int → Prop} (hk : K r.kind) : Ld PG ty_int ⟨kr, 0, none⟩ (.one (.leaf (.int .i64))) h K := Ld.i (row_cell x rfl) hk
theorem RecC.stSeq {kr : Nat} {r : Rc} {t : Sl} (x : RecC h kr r t) {n : Int} {K : Mem → Prop} (hk : ∀ h', Upd kr h h' → RecC h' kr { r with seq := n } t → K h') : St PG ty_uint64 ((⟨kr, 0, none⟩ : Addr).add 1) (.int .u64 n) h K := by
  rw [add_off]
  exact St.row und_u (vs := [.int .u64 n]) rfl (by kernel_rfl) (by intro u hu; simp only [List.mem_cons, List.not_mem_nil, or_false] at hu; subst hu; rfl) x (show 2 ≤ 7 by decide) fun h' u r' => hk h' u r'
theorem RecC.stMove {kr : Nat} {r : Rc} {t : Sl} (x : RecC h kr r t) {n0 n1 n2 n3 : Int} {K : Mem → Prop} (hk : ∀ h', Upd kr h h' → RecC h' kr ⟨r.kind, r.seq, n0, n1, n2, n3⟩ t → K h') : St PG ty_api_Move ((⟨kr, 0, none⟩ : Addr).add 3) (.agg #[.int .u64 n0, .int .i64 n1, .int .i64 n2, .int .i64 n3]) h K := by
  obtain ⟨d, hd⟩ := und_move
  rw [add_off]
  exact St.row hd (vs := [.int .u64 n0, .int .i64 n1, .int .i64 n2, .int .i64 n3]) rfl sz_move (by intro u hu; simp only [List.mem_cons, List.not_mem_nil, or_false] at hu; rcases hu with rfl | rfl | rfl | rfl <;> rfl) x (show 7 ≤ 7 by decide) fun h' u r' => hk h' u r'
theorem Rdg.upd {j : Nat} {h' : Mem} (g : Rdg h0 h k tt b l s) (hj : h0.size ≤ j) (hne : k ≠ j) (u : Upd j h h') : Rdg h0 h' k tt b l s := ⟨g.bytes, g.x.trans (u.ext hj), g.lo, (u.block k hne).trans g.r, g.len, g.at_, g.cap⟩
theorem OwnL.upd {j B' B : Nat} {t : Sl} {cs : List Cg} {h' : Mem} {c : Array Value} {fz : Nat × Nat} (x : OwnL ty_api_Change 5 ECg h B' B t cs) (hk : h[j]? = some (.cells c tt fz)) (ht : tt ≠ ty_api_Change) (y : Upd j h h') : OwnL ty_api_Change 5 ECg h' B' B t cs := x.kx hk ht (.upd y)

theorem OwnL.pushC {kr : Nat} {r : Rc} {t : Sl} {cs : List Cg} {c : Cg} {K : Sl → Mem → Prop} (g : Rdg h0 h k tt b l s) (htt : tt ≠ ty_api_Change) (hr : RecC h kr r t) (o : OwnL ty_api_Change 5 ECg h h0.size h0.size t cs) (hs : cs.length ≤ 1000) {kc : Nat} (hc : h[kc]? = some (.cells (cgcells c).toArray ty_api_Change (0, 0)))
    (q : ∀ t' h', Rdg h0 h' k tt b l s → RecC h' kr r t → OwnL ty_api_Change 5 ECg h' h0.size h0.size t' (cs ++ [c]) → K t' h') :
    PrimT PG (Builtin.append_ #[ty_sl_api_Change, ty_sl_api_Change] ty_sl_api_Change #[Value.slice t.a t.len t.cap, Value.slice (some (Addr.mk kc 0 none)) 1 1]) (Kd.one (Cmp.leaf Leaf.sl)) h K := by
  have h0s := g.x.size
  refine OwnL.push (bytes := 48) und_changes info_chg (by decide) ECg.stab (by omega) o (Cells.whole (cs := cgcells c) hc) rfl (one_cgcells c) rfl (by decide) (by decide) (by omega) fun t' h56 o56 x56 g56 _ => ?_
  have blk : ∀ (j : Nat) (c : Array Value) (e : TypeId), e ≠ ty_api_Change → h[j]? = some (.cells c e (0, 0)) → h56[j]? = some (.cells c e (0, 0)) := fun j c e he hj => by
    refine (g56.block j (Array.getElem?_eq_some_iff.1 hj).1 fun a ha e' => ?_).trans hj
    obtain ⟨_, ow, _⟩ := o
    obtain ⟨_, _, c', hc'⟩ := Owns.blk ow ha
    rw [← e', hj] at hc'
    cases hc'
    exact he rfl
  exact q t' h56 ⟨g.bytes, g.x.trans x56, g.lo, blk _ _ _ htt g.r, g.len, g.at_, g.cap⟩ (blk _ _ _ (by decide) hr) o56
theorem RecC.stChs {kr : Nat} {r : Rc} {t t' : Sl} (x : RecC h kr r t) {K : Mem → Prop} (hk : ∀ h', Upd kr h h' → RecC h' kr r t' → K h') : St PG ty_sl_api_Change ((⟨kr, 0, none⟩ : Addr).add 2) (sval t') h K := by
  rw [add_off]
  exact St.row und_changes (vs := [sval t']) rfl (by kernel_rfl) (by intro u hu; simp only [List.mem_cons, List.not_mem_nil, or_false] at hu; subst hu; rfl) x (show 3 ≤ 7 by decide) fun h' u r' => hk h' u r'
theorem rb_push {kr kc : Nat} {r : Rc} {t : Sl} {cs : List Cg} {c : Cg} {F : Mem → Prop} (g : Rdg h0 h k tt b l s) (htt : tt ≠ ty_api_Change) (hkr : h0.size ≤ kr) (hne : kr ≠ k) (hr : RecC h kr r t) (o : OwnL ty_api_Change 5 ECg h h0.size h0.size t cs) (hs : cs.length ≤ 1000)
    (hc : h[kc]? = some (.cells (cgcells c).toArray ty_api_Change (0, 0))) (q : ∀ t' h', Rdg h0 h' k tt b l s → RecC h' kr r t' → OwnL ty_api_Change 5 ECg h' h0.size h0.size t' (cs ++ [c]) → F h') :
    Deref (some ⟨kr, 0, none⟩) fun (p33 : Addr) =>
      Ld PG ty_sl_api_Change (p33.add 2) (Kd.one (Cmp.leaf Leaf.sl)) h fun (s34 : Sl) =>
        Ld PG ty_api_Change (Addr.mk kc 0 none) (Kd.one (Cmp.agg [Leaf.str, Leaf.int IntKind.u64, Leaf.int IntKind.i64, Leaf.int IntKind.i64, Leaf.bool])) h
          fun (t35 : ByteArray) (n36 n37 n38 : Int) (b39 : Bool) =>
          New (Obj.cells #[Value.string t35, Value.int IntKind.u64 n36, Value.int IntKind.i64 n37, Value.int IntKind.i64 n38, Value.bool b39] 43) h fun (k40 : Nat) (h41 : Mem) =>
            (Ld PG ty_sl_api_Change (p33.add 2) (Kd.one (Cmp.leaf Leaf.sl)) h41 fun (s42 : Sl) => Value.slice s42.a s42.len s42.cap = Value.slice s34.a s34.len s34.cap) ∧
              PrimT PG (Builtin.append_ #[ty_sl_api_Change, ty_sl_api_Change] ty_sl_api_Change #[Value.slice s34.a s34.len s34.cap, Value.slice (some (Addr.mk k40 0 none)) 1 1]) (Kd.one (Cmp.leaf Leaf.sl)) h41 fun (s43 : Sl) (h44 : Mem) =>
                Deref (some ⟨kr, 0, none⟩) fun (p45 : Addr) => St PG ty_sl_api_Change (p45.add 2) (Value.slice s43.a s43.len s43.cap) h44 F := by
  show Ld _ _ _ _ _ _
  refine hr.chs (Ld.cg (Cells.whole hc) (New.go fun h41 _ x41 z41 r41 => ⟨(hr.ext x41).chs rfl, ?_⟩))
  refine (o.ext ECg.stab x41).pushC (g.ext x41) htt (hr.ext x41) hs r41 fun t' h44 g44 r44 o44 => ?_
  show St _ _ _ _ _ _
  exact r44.stChs fun h46 u46 r46 => q t' h46 (g44.upd hkr (fun e => hne e.symm) u46) r46 (o44.upd r44 (by decide) u46)

/-! ### plain facts of a change -/
theorem rByte_pos (hp : (rByte l s).1 ≠ 0) : (rByte l s).2.2 = 0 := by
  unfold rByte at *
  split at hp
  · rename_i h
    rw [if_pos h]
    cases hd : l[s.1]? with
    | some c => rfl
    | none => rw [hd] at hp; exact absurd rfl hp
  · exact absurd rfl hp
theorem rChange_0 (e : (rByte l (rText 64 l s).2).1 = 0) : rChange l s = (⟨⟨(rText 64 l s).1.toArray⟩, (rRef l (rByte l (rText 64 l s).2).2).1.1, (rRef l (rByte l (rText 64 l s).2).2).1.2.1, (rRef l (rByte l (rText 64 l s).2).2).1.2.2, false⟩, (rRef l (rByte l (rText 64 l s).2).2).2) := by
  unfold rChange rKind
  rw [if_neg (by omega), if_neg (by omega)]
theorem rChange_1 (e : (rByte l (rText 64 l s).2).1 = 1) : rChange l s = (⟨⟨(rText 64 l s).1.toArray⟩, 0, 0, 0, true⟩, (rByte l (rText 64 l s).2).2) := by
  unfold rChange
  rw [if_pos e]
theorem rChange_2 (e0 : (rByte l (rText 64 l s).2).1 ≠ 0) (e1 : (rByte l (rText 64 l s).2).1 ≠ 1) : rChange l s = (⟨⟨(rText 64 l s).1.toArray⟩, 0, 0, 0, false⟩, ((rByte l (rText 64 l s).2).2.1, 11)) := by
  unfold rChange rKind
  rw [if_neg e1, if_pos (by omega), rRef_err (by decide)]
  rfl
theorem rChanges_err {n a e : Nat} (h : e ≠ 0) : rChanges l n (a, e) = ([], (a, e)) := by
  cases n with
  | zero => rfl
  | succ n => rw [rChanges, if_neg h]
theorem rChanges_go {n : Nat} (hs : s.2 = 0) : rChanges l (n + 1) s = ((rChange l s).1 :: (rChanges l n (rChange l s).2).1, (rChanges l n (rChange l s).2).2) := by rw [rChanges, if_pos hs]
end
end Go.Dn.W

set_option linter.unusedVariables false
namespace Go.Dn.W
open Go Go.Dn Go.Proofs

section
variable {h0 h : Mem} {k : Nat} {tt : TypeId} {b : Sl} {l : List UInt8} {s : Nat × Nat}
theorem pen_chg : ty_batch_pen ≠ ty_api_Change := by decide
theorem St.cref {b : Nat} {c : Cg} {x y z : Int} {K : Mem → Prop} (hr : h[b]? = some (.cells (cgcells c).toArray ty_api_Change (0, 0)))
    (hk : ∀ h', Upd b h h' → h'[b]? = some (.cells (cgcells ⟨c.key, x, y, z, c.del⟩).toArray ty_api_Change (0, 0)) → K h') : St PG ty_api_Ref ((⟨b, 0, none⟩ : Addr).add 1) (.agg #[.int .u64 x, .int .i64 y, .int .i64 z]) h K := by
  obtain ⟨t, hd⟩ := und_ref
  rw [add_off]
  exact St.row hd (vs := [.int .u64 x, .int .i64 y, .int .i64 z]) rfl sz_ref (by intro u hu; simp only [List.mem_cons, List.not_mem_nil, or_false] at hu; rcases hu with rfl | rfl | rfl <;> rfl) hr (show 4 ≤ 5 by decide) fun h' u r => hk h' u r
theorem St.cdel {b : Nat} {c : Cg} {d : Bool} {K : Mem → Prop} (hr : h[b]? = some (.cells (cgcells c).toArray ty_api_Change (0, 0)))
    (hk : ∀ h', Upd b h h' → h'[b]? = some (.cells (cgcells ⟨c.key, c.ser, c.pos, c.len, d⟩).toArray ty_api_Change (0, 0)) → K h') : St PG ty_bool ((⟨b, 0, none⟩ : Addr).add 4) (.bool d) h K := by
  rw [add_off]
  exact St.row und_bool (vs := [.bool d]) rfl (by kernel_rfl) (by intro u hu; simp only [List.mem_cons, List.not_mem_nil, or_false] at hu; subst hu; rfl) hr (show 5 ≤ 5 by decide) fun h' u r => hk h' u r

/-- what has been read of a batch -/
structure Bat (l : List UInt8) (N : Nat) (st0 : Nat × Nat) (i : Nat) (cs : List Cg) (st : Nat × Nat) : Prop where
  len : cs.length = i
  rest : (cs ++ (rChanges l (N - i) st).1, (rChanges l (N - i) st).2) = rChanges l N st0
  most : N ≤ 32 ∨ st.2 ≠ 0
theorem Bat.step {N i : Nat} {st0 st : Nat × Nat} {cs : List Cg} (x : Bat l N st0 i cs st) (hi : i < N) (he : st.2 = 0) : Bat l N st0 (i + 1) (cs ++ [(rChange l st).1]) (rChange l st).2 := by
  have hr := x.rest
  rw [show N - i = (N - (i + 1)) + 1 by omega, rChanges_go he] at hr
  refine ⟨by rw [List.length_append, x.len]; rfl, ?_, .inl (x.most.resolve_right fun h => h he)⟩
  rw [← hr, List.append_assoc]; rfl
theorem Bat.done {N i : Nat} {st0 st : Nat × Nat} {cs : List Cg} (x : Bat l N st0 i cs st) (hi : N ≤ i ∨ st.2 ≠ 0) : rChanges l N st0 = (cs, st) := by
  rw [← x.rest]
  obtain ⟨a, e⟩ := st
  rcases hi with hi | hi
  · rw [show N - i = 0 by omega]; simp [rChanges]
  · rw [rChanges_err hi]; simp

theorem ct_readBatch {kr : Nat} {kd : Int} {Q : Mem → Prop} (g : Rdg h0 h k ty_batch_pen b l s) (hkr : h0.size ≤ kr) (hne : kr ≠ k) (r : RecC h kr ⟨kd, 0, 0, 0, 0, 0⟩ ⟨none, 0, 0⟩)
    (q : ∀ t' h', Rdg h0 h' k ty_batch_pen b l (rBatch l s).2 → RecC h' kr ⟨kd, ((rNum l s).1 : Int), 0, 0, 0, 0⟩ t' → OwnL ty_api_Change 5 ECg h' h0.size h0.size t' (rBatch l s).1.2 → Q h') :
    CallF PG fn_batch_pen_readBatch [.pointer (some ⟨k, 0, none⟩), .pointer (some ⟨kr, 0, none⟩)] (.tup []) h Q := by
  refine call_batch_pen_readBatch (ct_pen_num g fun h2 k2 g2 => ?_)
  have r2 := r.kx hne k2
  show St _ _ _ _ _ _
  refine r2.stSeq fun h4 u4 r4 => ?_
  have g4 := g2.upd hkr (fun e => hne e.symm) u4
  refine ct_pen_num g4 fun h6 k6 g6 => ?_
  have r6 := r4.kx hne k6
  have hn := rNum_at (l := l) (s := (rNum l s).2) g2.at_
  -- the state that the loop begins with, and how often it may go round
  have hm : ∃ st0, (rBatch l s).1.2 = (rChanges l (rNum l (rNum l s).2).1 st0).1 ∧ (rBatch l s).2 = (rChanges l (rNum l (rNum l s).2).1 st0).2 ∧ ((rNum l (rNum l s).2).1 > 32 → st0 = ((rNum l (rNum l s).2).2.1, 11)) ∧ (¬ (rNum l (rNum l s).2).1 > 32 → st0 = (rNum l (rNum l s).2).2) := by
    by_cases h32 : (rNum l (rNum l s).2).1 > 32
    · refine ⟨((rNum l (rNum l s).2).2.1, 11), ?_, ?_, fun _ => rfl, fun h => absurd h32 h⟩
      · unfold rBatch; rw [rMost_bad h32, rChanges_err (by decide), rChanges_err (by decide)]
      · unfold rBatch; rw [rMost_bad h32, rChanges_err (by decide), rChanges_err (by decide)]
    · refine ⟨(rNum l (rNum l s).2).2, ?_, ?_, fun h => absurd h h32, fun _ => rfl⟩
      · unfold rBatch; rw [rMost_ok h32]
      · unfold rBatch; rw [rMost_ok h32]
  obtain ⟨st0, hb1, hb2, hst1, hst2⟩ := hm
  rw [hb1, hb2] at q
  have hN := hn.2.1
  have hE := hn.2.2
  generalize (rNum l (rNum l s).2).1 = N at *
  refine ⟨fun h' => Rdg h0 h' k ty_batch_pen b l st0 ∧ RecC h' kr ⟨kd, ((rNum l s).1 : Int), 0, 0, 0, 0⟩ ⟨none, 0, 0⟩ ∧ (N ≤ 32 ∨ st0.2 ≠ 0), ?_, ?_⟩
  · rintro _ h9 ⟨g9, r9, hmost⟩
    refine ⟨fun n h' => ∃ (i : Nat) (cs : List Cg) (st : Nat × Nat) (t : Sl), n = (i : Int) ∧ Bat l N st0 i cs st ∧ Rdg h0 h' k ty_batch_pen b l st ∧ RecC h' kr ⟨kd, ((rNum l s).1 : Int), 0, 0, 0, 0⟩ t ∧ OwnL ty_api_Change 5 ECg h' h0.size h0.size t cs, fun n _ => N - n.toNat,
      ⟨0, [], st0, ⟨none, 0, 0⟩, rfl, ⟨rfl, rfl, hmost⟩, g9, r9, OwnL.nil _ _ _ _ _ _⟩, ?_⟩
    rintro _ n h14 ⟨i, cs, st, t, rfl, hbat, g14, r14, o14⟩
    refine ⟨fun z h' => z = (decide (i < N) && decide (st.2 = 0)) ∧ h' = h14, ?_, ?_⟩
    · rintro _ z h18 ⟨rfl, rfl⟩
      refine Br.mk (fun e => ?_) fun e => ?_
      · simp only [Bool.and_eq_true, decide_eq_true_eq] at e
        obtain ⟨hi, he⟩ := e
        have h32 : N ≤ 32 := hbat.most.resolve_right fun h => h he
        have hcs : cs.length ≤ 1000 := by rw [hbat.len]; omega
        have nxt := hbat.step hi he
        refine ct_pen_key g14 fun h20 k20 g20 => New.go fun h22 _ x22 z22 r22 => ?_
        have r20 := r14.kx hne k20
        have o20 := o14.kx g14.r pen_chg k20
        have hk20 := g20.lt
        have hb20 := g20.lo
        have kc : h20.size ≠ k := by omega
        -- the end of a round
        have fin : ∀ {H : Mem}, Rdg h0 H k ty_batch_pen b l (rChange l st).2 → Kx k h20 H → H[h20.size]? = some (.cells (cgcells (rChange l st).1).toArray ty_api_Change (0, 0)) → _ :=
          fun {H} gH kH hc => rb_push (kc := h20.size) (F := fun h' => (∃ (i' : Nat) (cs : List Cg) (st : Nat × Nat) (t : Sl), IntKind.u64.wrap ((i : Int) + 1) = (i' : Int) ∧ Bat l N st0 i' cs st ∧ Rdg h0 h' k ty_batch_pen b l st ∧ RecC h' kr ⟨kd, ((rNum l s).1 : Int), 0, 0, 0, 0⟩ t ∧ OwnL ty_api_Change 5 ECg h' h0.size h0.size t cs) ∧ N - (IntKind.u64.wrap ((i : Int) + 1)).toNat < N - i) gH pen_chg hkr hne (r20.kx hne kH) (o20.kx g20.r pen_chg kH) hcs hc fun t' h' g' r' o' => by
            have ei : IntKind.u64.wrap ((i : Int) + 1) = ((i + 1 : Nat) : Int) := u64_eq (n := i + 1) (by omega)
            exact ⟨⟨i + 1, _, _, t', ei, nxt, g', r', o'⟩, by rw [ei, Int.toNat_natCast]; omega⟩
        refine St.cg (c := ⟨⟨(rText 64 l st).1.toArray⟩, 0, 0, 0, false⟩) r22 rfl fun h23 u23 c23 => ?_
        have g23 := (g20.ext x22).upd (by omega) (fun e => kc e.symm) u23
        have kx23 : Kx k h20 h23 := .ext (x22.trans (u23.ext (Nat.le_refl _)))
        have z23 := u23.size
        refine ct_pen_one g23 fun h25 k25 g25 => ?_
        have z25 := k25.size
        have c25 := (k25.block h20.size (by omega) kc).trans c23
        have kx25 := kx23.trans k25
        refine Br.mk (fun e0 => ?_) fun e0 => Br.mk (fun e1 => ?_) fun e1 => ?_
        · have e0 : (rByte l (rText 64 l st).2).1 = 0 := by simpa using e0
          refine ct_pen_num g25 fun h27 k27 g27 => ct_pen_int g27 fun h29 k29 g29 => ct_pen_int g29 fun h31 k31 g31 => ?_
          have kx := k27.trans (k29.trans k31)
          have c31 := (kx.block h20.size (by omega) kc).trans c25
          refine St.cref c31 fun h32 u32 c32 => fin ?_ ((kx25.trans kx).thenUpd u32 (Nat.le_refl _)) ?_
          · rw [rChange_0 e0]; unfold rRef; exact g31.upd (by omega) (fun e => kc e.symm) u32
          · rw [rChange_0 e0]; unfold rRef; exact c32
        · have e1 : (rByte l (rText 64 l st).2).1 = 1 := by have e1 := beq_iff_eq.1 e1; omega
          refine St.cdel c25 fun h47 u47 c47 => fin ?_ (kx25.thenUpd u47 (Nat.le_refl _)) ?_
          · rw [rChange_1 e1]; exact g25.upd (by omega) (fun e => kc e.symm) u47
          · rw [rChange_1 e1]; exact c47
        · have e0 : (rByte l (rText 64 l st).2).1 ≠ 0 := by simp only [beq_eq_false_iff_ne, ne_eq] at e0; omega
          have e1 : (rByte l (rText 64 l st).2).1 ≠ 1 := by simp only [beq_eq_false_iff_ne, ne_eq] at e1; omega
          refine ct_fail (e := 11) g25 (rByte_pos e0) fun h62 k62 g62 => fin ?_ (kx25.trans k62) ?_
          · rw [rChange_2 e0 e1]; exact g62
          · rw [rChange_2 e0 e1]; exact (k62.block h20.size (by omega) kc).trans c25
      · have hd := hbat.done (by
          simp only [Bool.and_eq_false_iff, decide_eq_false_iff_not] at e
          rcases e with e | e
          · exact .inl (by omega)
          · exact .inr e)
        rw [hd] at q
        exact q t h18 g14 r14 o14
    · refine Br.mk (fun e => ?_) fun e => ⟨?_, rfl⟩
      · show Ld _ _ _ _ _ _
        refine g14.ldE ⟨?_, rfl⟩
        rw [decide_eq_true (show i < N by simp only [decide_eq_true_eq] at e; omega), Bool.true_and]
        rw [Bool.eq_iff_iff]; simp
      · rw [decide_eq_false (show ¬ i < N by simp only [decide_eq_false_iff_not] at e; omega), Bool.false_and]
  · refine Br.mk (fun e => ?_) fun e => ?_
    · have e : N > 32 := by simp only [gt_iff_lt, decide_eq_true_eq] at e; omega
      refine ct_fail (e := 11) g6 (Decidable.byContradiction fun hh => by have := hE hh; omega) fun h79 k79 g79 => ?_
      have := hst1 e
      subst this
      exact ⟨g79, r6.kx hne k79, .inr (by show (11 : Nat) ≠ 0; decide)⟩
    · have e : ¬ N > 32 := by simp only [gt_iff_lt, decide_eq_false_iff_not] at e; omega
      have := hst2 e
      subst this
      exact ⟨g6, r6, .inl (by omega)⟩
end
end Go.Dn.W

set_option linter.unusedVariables false
namespace Go.Dn.W
open Go Go.Dn Go.Proofs

theorem rChanges_length (l : List UInt8) : ∀ (n : Nat) (s : Nat × Nat), (rChanges l n s).1.length ≤ n
  | 0, s => Nat.le_refl _
  | n + 1, s => by
    rw [rChanges]
    split
    · have := rChanges_length l n (rChange l s).2
      simp only [List.length_cons]; omega
    · exact Nat.zero_le _
theorem rChange_fit {l : List UInt8} {s : Nat × Nat} (h : s.1 ≤ l.length) : (rChange l s).1.key.size ≤ 64 ∧ (rChange l s).1.ser ≤ 18446744073709551615 := by
  have h1 := rText_at (m := 64) h
  have h2 := (rByte_at h1.1).1
  have h3 : (⟨(rText 64 l s).1.toArray⟩ : ByteArray).size ≤ 64 := by
    show (rText 64 l s).1.toArray.size ≤ 64
    rw [List.size_toArray]; exact h1.2
  unfold rChange
  split
  · exact ⟨h3, by show (0 : Int) ≤ _; omega⟩
  · have h4 : (rKind (rByte l (rText 64 l s).2)).1 ≤ l.length := by unfold rKind; split <;> exact h2
    have := (rRef_at h4).2
    exact ⟨h3, by show ((_ : Nat) : Int) ≤ _; omega⟩
theorem rChanges_fit (l : List UInt8) : ∀ (n : Nat) (s : Nat × Nat), s.1 ≤ l.length → ∀ c ∈ (rChanges l n s).1, c.key.size ≤ 64 ∧ c.ser ≤ 18446744073709551615
  | 0, s, _, c, hc => by simp [rChanges] at hc
  | n + 1, s, h, c, hc => by
    rw [rChanges] at hc
    split at hc
    · rcases List.mem_cons.1 hc with rfl | hc
      · exact rChange_fit h
      · exact rChanges_fit l n _ (rChange_at h) c hc
    · simp at hc
theorem rRaw_fit {l : List UInt8} : (rRaw l).1.2.length ≤ 32 ∧ (∀ c ∈ (rRaw l).1.2, c.key.size ≤ 64 ∧ c.ser ≤ 18446744073709551615) ∧ (rRaw l).1.1.seq ≤ 18446744073709551615 ∧ (rRaw l).1.1.ms ≤ 18446744073709551615 := by
  have h1 := (rByte_at (l := l) (s := (0, 0)) (Nat.zero_le _)).1
  have nil : ∀ {k : Int}, (((⟨k, 0, 0, 0, 0, 0⟩ : Rc), ([] : List Cg)).2.length ≤ 32 ∧ (∀ c ∈ ((⟨k, 0, 0, 0, 0, 0⟩ : Rc), ([] : List Cg)).2, c.key.size ≤ 64 ∧ c.ser ≤ 18446744073709551615) ∧ (⟨k, 0, 0, 0, 0, 0⟩ : Rc).seq ≤ 18446744073709551615 ∧ (⟨k, 0, 0, 0, 0, 0⟩ : Rc).ms ≤ 18446744073709551615) := fun {k} => ⟨Nat.zero_le _, fun c hc => by simp at hc, by show (0 : Int) ≤ _; omega, by show (0 : Int) ≤ _; omega⟩
  have h2 := rNum_at h1
  unfold rRaw
  split
  · split
    · have h3 := rMost_at (m := 32) h2.1
      refine ⟨Nat.le_trans (rChanges_length _ _ _) h3.2, rChanges_fit _ _ _ h3.1, ?_, by show (0 : Int) ≤ _; omega⟩
      show (((rNum l (rByte l (0, 0)).2).1 : Nat) : Int) ≤ _
      omega
    · split
      · refine ⟨Nat.zero_le _, fun c hc => by simp [rMove] at hc, by show (0 : Int) ≤ _; omega, ?_⟩
        show (((rNum l (rByte l (0, 0)).2).1 : Nat) : Int) ≤ _
        omega
      · exact nil
  · exact nil
def RdOk (l : List UInt8) : Prop := (rRaw l).2.2 = 0 ∧ l.length ≤ (rRaw l).2.1 ∧ RecOk (rRaw l).1.1 (rRaw l).1.2
def rErr (l : List UInt8) : Nat := if (rRaw l).2.2 = 0 then 11 else (rRaw l).2.2

section
variable {h0 h : Mem} {k : Nat} {tt : TypeId} {b : Sl} {l : List UInt8} {s : Nat × Nat}
theorem ct_readMove {kr : Nat} {kd : Int} {Q : Mem → Prop} (g : Rdg h0 h k ty_batch_pen b l s) (hkr : h0.size ≤ kr) (hne : kr ≠ k) (r : RecC h kr ⟨kd, 0, 0, 0, 0, 0⟩ ⟨none, 0, 0⟩)
    (q : ∀ h', Rdg h0 h' k ty_batch_pen b l (rFour l s).2 → RecC h' kr ⟨kd, 0, ((rFour l s).1.1 : Int), ((rFour l s).1.2.1 : Int), ((rFour l s).1.2.2.1 : Int), ((rFour l s).1.2.2.2 : Int)⟩ ⟨none, 0, 0⟩ → Q h') :
    CallF PG fn_batch_pen_readMove [.pointer (some ⟨k, 0, none⟩), .pointer (some ⟨kr, 0, none⟩)] (.tup []) h Q := by
  refine call_batch_pen_readMove (ct_pen_num g fun h2 k2 g2 => ct_pen_int g2 fun h4 k4 g4 => ct_pen_int g4 fun h6 k6 g6 => ct_pen_int g6 fun h8 k8 g8 => ?_)
  show St _ _ _ _ _ _
  exact (r.kx hne (k2.trans (k4.trans (k6.trans k8)))).stMove fun h10 u10 r10 => q h10 (g8.upd hkr (fun e => hne e.symm) u10) r10

/-! ### the document's change -/
abbrev RD : TypeId := ty_dunnageref01_Reader
theorem rd_chg : RD ≠ ty_api_Change := by decide
theorem St.cser {b : Nat} {c : Cg} {x : Int} {K : Mem → Prop} (hr : h[b]? = some (.cells (cgcells c).toArray ty_api_Change (0, 0)))
    (hk : ∀ h', Upd b h h' → h'[b]? = some (.cells (cgcells ⟨c.key, x, c.pos, c.len, c.del⟩).toArray ty_api_Change (0, 0)) → K h') : St PG ty_uint64 ((⟨b, 0, none⟩ : Addr).add 1) (.int .u64 x) h K := by
  rw [add_off]
  exact St.row und_u (vs := [.int .u64 x]) rfl (by kernel_rfl) (by intro u hu; simp only [List.mem_cons, List.not_mem_nil, or_false] at hu; subst hu; rfl) hr (show 2 ≤ 5 by decide) fun h' u r => hk h' u r
theorem St.cpos {b : Nat} {c : Cg} {x : Int} {K : Mem → Prop} (hr : h[b]? = some (.cells (cgcells c).toArray ty_api_Change (0, 0)))
    (hk : ∀ h', Upd b h h' → h'[b]? = some (.cells (cgcells ⟨c.key, c.ser, x, c.len, c.del⟩).toArray ty_api_Change (0, 0)) → K h') : St PG ty_int (((⟨b, 0, none⟩ : Addr).add 1).add 1) (.int .i64 x) h K := by
  rw [add_off, add_off]
  exact St.row und_i (vs := [.int .i64 x]) rfl (by kernel_rfl) (by intro u hu; simp only [List.mem_cons, List.not_mem_nil, or_false] at hu; subst hu; rfl) hr (show 3 ≤ 5 by decide) fun h' u r => hk h' u r
theorem St.clen {b : Nat} {c : Cg} {x : Int} {K : Mem → Prop} (hr : h[b]? = some (.cells (cgcells c).toArray ty_api_Change (0, 0)))
    (hk : ∀ h', Upd b h h' → h'[b]? = some (.cells (cgcells ⟨c.key, c.ser, c.pos, x, c.del⟩).toArray ty_api_Change (0, 0)) → K h') : St PG ty_int (((⟨b, 0, none⟩ : Addr).add 1).add 2) (.int .i64 x) h K := by
  rw [add_off, add_off]
  exact St.row und_i (vs := [.int .i64 x]) rfl (by kernel_rfl) (by intro u hu; simp only [List.mem_cons, List.not_mem_nil, or_false] at hu; subst hu; rfl) hr (show 4 ≤ 5 by decide) fun h' u r => hk h' u r
theorem cg_ret {k1 k6 : Nat} {c c0 : Cg} {Q : ByteArray → Int → Int → Int → Bool → Mem → Prop} (r6 : h[k6]? = some (.cells (cgcells c).toArray ty_api_Change (0, 0))) (r1 : h[k1]? = some (.cells (cgcells c0).toArray ty_api_Change (0, 0)))
    (q : ∀ h', Upd k1 h h' → Q c.key c.ser c.pos c.len c.del h') :
    Ld PG ty_api_Change (Addr.mk k6 0 none) (Kd.one (Cmp.agg [Leaf.str, Leaf.int IntKind.u64, Leaf.int IntKind.i64, Leaf.int IntKind.i64, Leaf.bool])) h fun (t36 : ByteArray) (n37 n38 n39 : Int) (b40 : Bool) =>
      St PG ty_api_Change (Addr.mk k1 0 none) (Value.agg #[Value.string t36, Value.int IntKind.u64 n37, Value.int IntKind.i64 n38, Value.int IntKind.i64 n39, Value.bool b40]) h fun (h41 : Mem) =>
        Ld PG ty_api_Change (Addr.mk k1 0 none) (Kd.one (Cmp.agg [Leaf.str, Leaf.int IntKind.u64, Leaf.int IntKind.i64, Leaf.int IntKind.i64, Leaf.bool])) h41
          fun (t42 : ByteArray) (n43 n44 n45 : Int) (b46 : Bool) => Q t42 n43 n44 n45 b46 h41 :=
  Ld.cg (Cells.whole r6) (St.cg r1 rfl fun h' u r => Ld.cg (Cells.whole r) (q h' u))
theorem chm_tail {H : Mem} {k1 k6 : Nat} {key : ByteArray} {n9 : Int} {Q : ByteArray → Int → Int → Int → Bool → Mem → Prop} (g : Rdg h0 h k RD b l s) (kx : Kx k H h) (hH : h0.size ≤ H.size) (h1 : H.size ≤ k1) (h6 : H.size ≤ k6) (n1 : k1 ≠ k) (n6 : k6 ≠ k) (n16 : k1 ≠ k6)
    (r6 : h[k6]? = some (.cells (cgcells ⟨key, 0, 0, 0, false⟩).toArray ty_api_Change (0, 0))) (r1 : h[k1]? = some (.cells (cgcells ⟨ByteArray.mk #[], 0, 0, 0, false⟩).toArray ty_api_Change (0, 0)))
    (q1 : n9 = 1 → ∀ h', Kx k H h' → Rdg h0 h' k RD b l s → Q key 0 0 0 true h')
    (q2 : n9 ≠ 1 → ∀ h', Kx k H h' → Rdg h0 h' k RD b l (rRef l s).2 → Q key ((rRef l s).1.1 : Int) ((rRef l s).1.2.1 : Int) ((rRef l s).1.2.2 : Int) false h') :
    Br (n9 == 1)
      (St PG ty_bool ((Addr.mk k6 0 none).add 4) (Value.bool true) h fun (h79 : Mem) =>
        Ld PG ty_api_Change (Addr.mk k6 0 none) (Kd.one (Cmp.agg [Leaf.str, Leaf.int IntKind.u64, Leaf.int IntKind.i64, Leaf.int IntKind.i64, Leaf.bool])) h79 fun (t80 : ByteArray) (n81 n82 n83 : Int) (b84 : Bool) =>
          St PG ty_api_Change (Addr.mk k1 0 none) (Value.agg #[Value.string t80, Value.int IntKind.u64 n81, Value.int IntKind.i64 n82, Value.int IntKind.i64 n83, Value.bool b84]) h79 fun (h85 : Mem) =>
            Ld PG ty_api_Change (Addr.mk k1 0 none) (Kd.one (Cmp.agg [Leaf.str, Leaf.int IntKind.u64, Leaf.int IntKind.i64, Leaf.int IntKind.i64, Leaf.bool])) h85 fun (t86 : ByteArray) (n87 n88 n89 : Int) (b90 : Bool) => Q t86 n87 n88 n89 b90 h85)
      (CallF PG fn_dunnageref01_Reader_Num [Value.pointer (some ⟨k, 0, none⟩)] (Kd.one (Cmp.leaf (Leaf.int IntKind.u64))) h fun (n91 : Int) (h92 : Mem) =>
        St PG ty_uint64 ((Addr.mk k6 0 none).add 1) (Value.int IntKind.u64 n91) h92 fun (h93 : Mem) =>
          CallF PG fn_dunnageref01_Reader_Most [Value.pointer (some ⟨k, 0, none⟩), Value.int IntKind.u64 4611686018427387904] (Kd.one (Cmp.leaf (Leaf.int IntKind.i64))) h93 fun (n94 : Int) (h95 : Mem) =>
            St PG ty_int (((Addr.mk k6 0 none).add 1).add 1) (Value.int IntKind.i64 n94) h95 fun (h96 : Mem) =>
              CallF PG fn_dunnageref01_Reader_Most [Value.pointer (some ⟨k, 0, none⟩), Value.int IntKind.u64 4611686018427387904] (Kd.one (Cmp.leaf (Leaf.int IntKind.i64))) h96 fun (n97 : Int) (h98 : Mem) =>
                St PG ty_int (((Addr.mk k6 0 none).add 1).add 2) (Value.int IntKind.i64 n97) h98 fun (h99 : Mem) =>
                  Ld PG ty_api_Change (Addr.mk k6 0 none) (Kd.one (Cmp.agg [Leaf.str, Leaf.int IntKind.u64, Leaf.int IntKind.i64, Leaf.int IntKind.i64, Leaf.bool])) h99 fun (t100 : ByteArray) (n101 n102 n103 : Int) (b104 : Bool) =>
                    St PG ty_api_Change (Addr.mk k1 0 none) (Value.agg #[Value.string t100, Value.int IntKind.u64 n101, Value.int IntKind.i64 n102, Value.int IntKind.i64 n103, Value.bool b104]) h99 fun (h105 : Mem) =>
                      Ld PG ty_api_Change (Addr.mk k1 0 none) (Kd.one (Cmp.agg [Leaf.str, Leaf.int IntKind.u64, Leaf.int IntKind.i64, Leaf.int IntKind.i64, Leaf.bool])) h105 fun (t106 : ByteArray) (n107 n108 n109 : Int) (b110 : Bool) => Q t106 n107 n108 n109 b110 h105) := by
  have lt1 := (Array.getElem?_eq_some_iff.1 r1).1
  have lt6 := (Array.getElem?_eq_some_iff.1 r6).1
  refine Br.mk (fun e => ?_) fun e => ?_
  · refine St.cdel r6 fun h79 u79 r79 => cg_ret r79 ((u79.block k1 n16).trans r1) fun h85 u85 => ?_
    exact q1 (by simpa using e) h85 ((kx.thenUpd u79 h6).thenUpd u85 h1) ((g.upd (by omega) (fun e => n6 e.symm) u79).upd (by omega) (fun e => n1 e.symm) u85)
  · have q2 := q2 (by simpa using e)
    unfold rRef at q2
    refine ct_rd_Num g fun h92 k92 g92 => ?_
    have z92 := k92.size
    have r6a := (k92.block k6 lt6 n6).trans r6
    have r1a := (k92.block k1 lt1 n1).trans r1
    refine St.cser r6a fun h93 u93 r93 => ?_
    have z93 := u93.size
    have r1b := (u93.block k1 n16).trans r1a
    refine ct_rd_Most (m := 4611686018427387904) (g92.upd (by omega) (fun e => n6 e.symm) u93) (Nat.le_refl _) fun h95 k95 g95 => ?_
    have z95 := k95.size
    have r6c := (k95.block k6 (by omega) n6).trans r93
    have r1c := (k95.block k1 (by omega) n1).trans r1b
    refine St.cpos r6c fun h96 u96 r96 => ?_
    have z96 := u96.size
    have r1d := (u96.block k1 n16).trans r1c
    refine ct_rd_Most (m := 4611686018427387904) (g95.upd (by omega) (fun e => n6 e.symm) u96) (Nat.le_refl _) fun h98 k98 g98 => ?_
    have r6e := (k98.block k6 (by omega) n6).trans r96
    have r1e := (k98.block k1 (by omega) n1).trans r1d
    refine St.clen r6e fun h99 u99 r99 => cg_ret r99 ((u99.block k1 n16).trans r1e) fun h105 u105 => ?_
    exact q2 h105 ((((((kx.trans k92).thenUpd u93 h6).trans k95).thenUpd u96 h6).trans k98).thenUpd u99 h6 |>.thenUpd u105 h1) ((g98.upd (by omega) (fun e => n6 e.symm) u99).upd (by omega) (fun e => n1 e.symm) u105)
theorem rChange_ne (e1 : (rByte l (rText 64 l s).2).1 ≠ 1) : rChange l s = (⟨⟨(rText 64 l s).1.toArray⟩, (rRef l (rKind (rByte l (rText 64 l s).2))).1.1, (rRef l (rKind (rByte l (rText 64 l s).2))).1.2.1, (rRef l (rKind (rByte l (rText 64 l s).2))).1.2.2, false⟩, (rRef l (rKind (rByte l (rText 64 l s).2))).2) := by
  unfold rChange
  rw [if_neg e1]
theorem ct_change {Q : ByteArray → Int → Int → Int → Bool → Mem → Prop} (g : Rdg h0 h k RD b l s) (q : ∀ h', Kx k h h' → Rdg h0 h' k RD b l (rChange l s).2 → Q (rChange l s).1.key (rChange l s).1.ser (rChange l s).1.pos (rChange l s).1.len (rChange l s).1.del h') :
    CallF PG fn_dunnageref10_change [.pointer (some ⟨k, 0, none⟩)] (.one (.agg [.str, .int .u64, .int .i64, .int .i64, .bool])) h Q := by
  have hk := g.lt
  have hk0 := g.lo
  have h0s := g.x.size
  refine call_dunnageref10_change (New.go fun h2 _ x2 z2 r2 => ct_rd_Text (g.ext x2) fun s3 h4 k4 g4 b4 => read_bytes b4.len b4.at_ (New.go fun h7 _ x7 z7 r7 => ?_))
  have z4 := k4.size
  refine St.cg (c := ⟨⟨(rText 64 l s).1.toArray⟩, 0, 0, 0, false⟩) r7 rfl fun h8 u8 r8 => ?_
  have z8 := u8.size
  have kx8 : Kx k h h8 := ((Kx.ext x2).trans (k4.trans (Kx.ext x7))).thenUpd u8 (by omega)
  have g8 := (g4.ext x7).upd (by omega) (by omega) u8
  have r1 : h8[h.size]? = some (.cells (cgcells ⟨ByteArray.mk #[], 0, 0, 0, false⟩).toArray ty_api_Change (0, 0)) := (u8.block _ (by omega)).trans ((x7.block _ (by omega)).trans ((k4.block _ (by omega) (by omega)).trans r2))
  refine ct_rd_Byte g8 fun h10 k10 g10 => ?_
  have r6a := (k10.block h4.size (by omega) (by omega)).trans r8
  have r1a := (k10.block h.size (by omega) (by omega)).trans r1
  have kx10 := kx8.trans k10
  have hb : (rByte l (rText 64 l s).2).1 < 256 := (rByte_at (rText_at g.at_).1).2
  show Ld _ _ _ _ _ _
  refine g10.ldE (Br.mk (fun e => Br.mk (fun e2 => ?_) fun e2 => ?_) fun e => ?_)
  · simp only [gt_iff_lt, decide_eq_true_eq] at e2
    show St _ _ _ _ _ _
    refine g10.stE (e := 11) fun h14 k14 g14 => ?_
    have z10 := k10.size
    refine chm_tail g14 (kx10.trans k14) h0s (Nat.le_refl _) (by omega) (by omega) (by omega) (by omega) ((k14.block h4.size (by omega) (by omega)).trans r6a) ((k14.block h.size (by omega) (by omega)).trans r1a) (fun e1 => by omega) fun e1 h' kx g' => ?_
    rw [rChange_ne (by omega)] at q
    unfold rKind at q
    rw [if_pos (by omega)] at q
    exact q h' kx g'
  · simp only [gt_iff_lt, decide_eq_false_iff_not] at e2
    refine chm_tail g10 kx10 h0s (Nat.le_refl _) (by omega) (by omega) (by omega) (by omega) r6a r1a (fun e1 h' kx g' => ?_) fun e1 h' kx g' => ?_
    · rw [rChange_1 (by omega)] at q
      exact q h' kx g'
    · rw [rChange_0 (by omega)] at q
      exact q h' kx g'
  · have e : (rByte l (rText 64 l s).2).2.2 ≠ 0 := by intro h; rw [h] at e; cases e
    have e0 : (rByte l (rText 64 l s).2).1 = 0 := Decidable.byContradiction fun h => e (rByte_pos h)
    refine chm_tail g10 kx10 h0s (Nat.le_refl _) (by omega) (by omega) (by omega) (by omega) r6a r1a (fun e1 h' kx g' => by omega) fun e1 h' kx g' => ?_
    rw [rChange_0 e0] at q
    exact q h' kx g'
end
end Go.Dn.W

set_option linter.unusedVariables false
namespace Go.Dn.W
open Go Go.Dn Go.Proofs

section
variable {h0 h : Mem} {k : Nat} {tt : TypeId} {b : Sl} {l : List UInt8} {s : Nat × Nat}
theorem OwnB.cap {B : Nat} {e : TypeId} {t : Sl} (o : OwnB h B e t l) : t.len ≤ t.cap := by
  rcases o.2 with ⟨hv, _⟩ | ⟨g, cap, cur, hv, _, _, hc, _⟩
  · simp only [Value.slice.injEq] at hv; rw [hv.2.1, hv.2.2]; exact Nat.le_refl _
  · simp only [Value.slice.injEq] at hv; rw [hv.2.2]; exact hc
theorem und_rdr : ∃ d, PG.underlying ty_3_func_ptr_batch_pen_ptr_api_Record = some d := Option.isSome_iff_exists.1 (by kernel_rfl)
theorem agg_rdr : isAggB PG ty_3_func_ptr_batch_pen_ptr_api_Record = true := by kernel_rfl
theorem sz_rdr : szOf PG ty_3_func_ptr_batch_pen_ptr_api_Record = 3 := by kernel_rfl
def rds : List Value := [.nilFunc, .func (.func fn_batch_pen_readBatch) #[] #[], .func (.func fn_batch_pen_readMove) #[] #[]]
theorem ct_readers {Q : Value → Value → Value → Mem → Prop} (q : ∀ h', Ext h.size h h' → Q .nilFunc (.func (.func fn_batch_pen_readBatch) #[] #[]) (.func (.func fn_batch_pen_readMove) #[] #[]) h') : CallF PG fn_batch_readers [] (.one (.agg [.raw, .raw, .raw])) h Q := by
  obtain ⟨t, hd⟩ := und_rdr
  refine call_batch_readers (New.go fun h1 _ x1 z1 r1 => ?_)
  refine St.row hd (vs := rds) rfl sz_rdr (by intro u hu; simp only [rds, List.mem_cons, List.not_mem_nil, or_false] at hu; rcases hu with rfl | rfl | rfl <;> rfl) r1 (show 3 ≤ 3 by decide) fun h2 u2 r2 => ?_
  have r2 : h2[h.size]? = some (.cells rds.toArray ty_3_func_ptr_batch_pen_ptr_api_Record (0, 0)) := r2
  exact Ld.agg hd agg_rdr sz_rdr rfl (Cells.whole (cs := rds) r2) ⟨_, .raw _, _, .raw _, _, .raw _, q _ (x1.trans (u2.ext (Nat.le_refl _)))⟩
theorem pickR1 {a b c : Value} {K : Value → Prop} (hk : K b) : PureT PG (Instr.index ty_3_func_ptr_batch_pen_ptr_api_Record (.agg #[a, b, c]) (.int .i64 1)) (.one (.leaf .raw)) K :=
  ⟨b, fun w => by kernel_rfl, [b], rfl, b, .raw _, hk⟩
theorem pickR2 {a b c : Value} {K : Value → Prop} (hk : K c) : PureT PG (Instr.index ty_3_func_ptr_batch_pen_ptr_api_Record (.agg #[a, b, c]) (.int .i64 2)) (.one (.leaf .raw)) K :=
  ⟨c, fun w => by kernel_rfl, [c], rfl, c, .raw _, hk⟩

abbrev recKd : Kd := Kd.one (Cmp.agg [Leaf.int IntKind.i64, Leaf.int IntKind.u64, Leaf.sl, Leaf.int IntKind.u64, Leaf.int IntKind.i64, Leaf.int IntKind.i64, Leaf.int IntKind.i64])
abbrev ZR : Rc := ⟨0, 0, 0, 0, 0, 0⟩
abbrev NS : Sl := ⟨none, 0, 0⟩
theorem pr_end {k1 k9 : Nat} {r r0 : Rc} {t t0 : Sl} {Q : Int → Int → Sl → Int → Int → Int → Int → Int → Mem → Prop} (g : Rdg h0 h k tt b l s) (r1 : RecC h k1 r0 t0) (r9 : RecC h k9 r t) (n1 : k1 ≠ k)
    (q0 : s.2 ≠ 0 → ∀ h', Upd k1 h h' → Q 0 0 NS 0 0 0 0 (s.2 : Int) h') (q1 : s.2 = 0 → ∀ h', Upd k1 h h' → Q r.kind r.seq t r.ms r.mf r.mt r.mn 0 h') :
    Ld PG ty_api_Errno ((Addr.mk k 0 none).add 2) (Kd.one (Cmp.leaf (Leaf.int IntKind.i64))) h fun (n22 : Int) =>
      Br (n22 != 0)
        (Ld PG ty_api_Errno ((Addr.mk k 0 none).add 2) (Kd.one (Cmp.leaf (Leaf.int IntKind.i64))) h fun (n23 : Int) =>
          St PG ty_api_Record (Addr.mk k1 0 none) (Value.agg #[Value.int IntKind.i64 0, Value.int IntKind.u64 0, Value.slice none 0 0, Value.int IntKind.u64 0, Value.int IntKind.i64 0, Value.int IntKind.i64 0, Value.int IntKind.i64 0]) h fun (h24 : Mem) =>
            (Ld PG ty_api_Errno ((Addr.mk k 0 none).add 2) (Kd.one (Cmp.leaf (Leaf.int IntKind.i64))) h24 fun (n25 : Int) => Value.int IntKind.i64 n25 = Value.int IntKind.i64 n23) ∧
              Ld PG ty_api_Record (Addr.mk k1 0 none) recKd h24 fun (n26 n27 : Int) (s28 : Sl) (n29 n30 n31 n32 : Int) => Q n26 n27 (Sl.mk s28.a s28.len s28.cap) n29 n30 n31 n32 n23 h24)
        (Ld PG ty_api_Record (Addr.mk k9 0 none) recKd h fun (n33 n34 : Int) (s35 : Sl) (n36 n37 n38 n39 : Int) =>
          St PG ty_api_Record (Addr.mk k1 0 none) (Value.agg #[Value.int IntKind.i64 n33, Value.int IntKind.u64 n34, Value.slice s35.a s35.len s35.cap, Value.int IntKind.u64 n36, Value.int IntKind.i64 n37, Value.int IntKind.i64 n38, Value.int IntKind.i64 n39]) h fun (h40 : Mem) =>
            Ld PG ty_api_Record (Addr.mk k1 0 none) recKd h40 fun (n41 n42 : Int) (s43 : Sl) (n44 n45 n46 n47 : Int) => Q n41 n42 (Sl.mk s43.a s43.len s43.cap) n44 n45 n46 n47 0 h40) := by
  refine g.ldE (Br.mk (fun e => ?_) fun e => ?_)
  · have e : s.2 ≠ 0 := by intro h; rw [h] at e; cases e
    refine g.ldE (St.rec (r := ZR) (t := NS) r1 rfl fun h24 u24 r24 => ⟨?_, r24.ld (q0 e h24 u24)⟩)
    exact Ld.e (by rw [add_off]; exact row_cell ((u24.block k (fun e => n1 e.symm)).trans g.r) rfl) rfl
  · have e : s.2 = 0 := by simpa using e
    exact r9.ld (St.rec r1 rfl fun h40 u40 r40 => r40.ld (q1 e h40 u40))

/-- the kind of a record, and the state behind it -/
theorem rRaw_cases (l : List UInt8) : ∃ (kd : Nat) (st : Nat × Nat), (rByte l (0, 0)).1 = kd ∧ (if (rByte l (0, 0)).2.2 = 0 ∧ (kd < 1 ∨ 2 < kd) then ((rByte l (0, 0)).2.1, 11) else (rByte l (0, 0)).2) = st ∧ kd < 256 ∧
    ((st.2 = 0 ∧ kd = 1 ∧ rRaw l = rBatch l st) ∨ (st.2 = 0 ∧ kd = 2 ∧ rRaw l = rMove l st) ∨ (st.2 ≠ 0 ∧ rRaw l = ((⟨(kd : Int), 0, 0, 0, 0, 0⟩, []), st))) := by
  refine ⟨_, _, rfl, rfl, (rByte_at (Nat.zero_le _)).2, ?_⟩
  unfold rRaw
  by_cases e : (rByte l (0, 0)).2.2 = 0
  · rw [if_pos e]
    by_cases e1 : (rByte l (0, 0)).1 = 1
    · rw [if_pos e1, if_neg (by omega)]; exact .inl ⟨e, e1, rfl⟩
    · by_cases e2 : (rByte l (0, 0)).1 = 2
      · rw [if_neg e1, if_pos e2, if_neg (by omega)]; exact .inr (.inl ⟨e, e2, rfl⟩)
      · rw [if_neg e1, if_neg e2, if_pos ⟨e, by omega⟩]; exact .inr (.inr ⟨by show (11 : Nat) ≠ 0; decide, rfl⟩)
  · rw [if_neg e, if_neg (fun h => e h.1)]; exact .inr (.inr ⟨e, rfl⟩)

theorem ct_batch_Read {Q : Int → Int → Sl → Int → Int → Int → Int → Int → Mem → Prop} (hb : BytesSl h b l) (hl : l.length ≤ 140737488355328)
    (qy : RdOk l → ∀ t h', Ext h.size h h' → OwnL ty_api_Change 5 ECg h' h.size h.size t (rRaw l).1.2 → Q (rRaw l).1.1.kind (rRaw l).1.1.seq t (rRaw l).1.1.ms (rRaw l).1.1.mf (rRaw l).1.1.mt (rRaw l).1.1.mn 0 h')
    (qn : ¬ RdOk l → ∀ h', Ext h.size h h' → Q 0 0 NS 0 0 0 0 (rErr l : Int) h') :
    CallF PG fn_batch_Read [sval b] (.tup [.agg [.int .i64, .int .u64, .sl, .int .u64, .int .i64, .int .i64, .int .i64], .leaf (.int .i64)]) h Q := by
  obtain ⟨kd, st, hkd, hst, hkd2, hcase⟩ := rRaw_cases l
  refine call_batch_Read (b := b) (New.go fun h2 _ x2 z2 r2 => ct_Clone (hb.ext x2) hl fun s3 h4 x4 o4 => New.go fun h6 _ x6 z6 r6 => ?_)
  have b4 := o4.bytes
  have z4 := x4.size
  have r1 : RecC h4 h.size ZR NS := (x4.block h.size (by omega)).trans r2
  have x04 : Ext h.size h h4 := x2.after x4
  have g6 : Rdg h4 h6 h4.size ty_batch_pen s3 l (0, 0) := ⟨b4, x6, Nat.le_refl _, r6, hl, Nat.zero_le _, OwnB.cap o4⟩
  refine ct_pen_one g6 fun h8 k8 g8 => New.go fun h10 _ x10 z10 r10 => ?_
  have z8 := k8.size
  rw [hkd, i64_eq (by omega) (by omega)]
  refine St.rec (r := ⟨(kd : Int), 0, 0, 0, 0, 0⟩) (t := NS) r10 rfl fun h11 u11 r11 => ?_
  have g11 := (g8.ext x10).upd (by omega) (by omega) u11
  have hkr : h4.size ≤ h8.size := by omega
  have hne : h8.size ≠ h4.size := by omega
  refine ⟨fun h' => Rdg h4 h' h4.size ty_batch_pen s3 l st ∧ RecC h' h8.size ⟨(kd : Int), 0, 0, 0, 0, 0⟩ NS, ?_, ?_⟩
  · rintro _ h14 ⟨g14, r14⟩
    refine ⟨fun h' => ∃ t, Rdg h4 h' h4.size ty_batch_pen s3 l (rRaw l).2 ∧ RecC h' h8.size (rRaw l).1.1 t ∧ OwnL ty_api_Change 5 ECg h' h4.size h4.size t (rRaw l).1.2, ?_, ?_⟩
    · rintro _ h17 ⟨t, g17, r17, o17⟩
      have fit := rRaw_fit (l := l)
      have k1 : ∀ {H : Mem}, Ext h4.size h4 H → RecC H h.size ZR NS := fun x => (x.block _ (by omega)).trans r1
      have up : ∀ {H H' : Mem}, Ext h4.size h4 H → Upd h.size H H' → Ext h.size h H' := fun x u => (x04.trans (x.less (by omega))).trans (u.ext (Nat.le_refl _))
      have ow : ∀ {H H' : Mem}, Ext h4.size h4 H → OwnL ty_api_Change 5 ECg H h4.size h4.size t (rRaw l).1.2 → Upd h.size H H' → OwnL ty_api_Change 5 ECg H' h.size h.size t (rRaw l).1.2 := fun x o u => OwnL.base (o.upd (k1 x) (by decide) u) (by omega) fun _ _ h => h
      refine g17.ldE (Br.mk (fun e => ?_) fun e => ?_)
      · have e : (rRaw l).2.2 = 0 := by simpa using e
        refine g17.ldA (g17.ldB (Br.mk (fun e2 => ?_) fun e2 => ?_))
        · simp only [decide_eq_true_eq] at e2
          rw [b4.len] at e2
          refine ct_fail (e := 11) g17 e fun h21 k21 g21 => ?_
          have bad : ¬ RdOk l := fun ok => by have := ok.2.1; omega
          have qn := qn bad
          unfold rErr at qn
          rw [if_pos e] at qn
          exact pr_end g21 (k1 g21.x) (r17.kx hne k21) (by omega) (fun _ h' u => qn h' (up g21.x u)) fun h => by cases h
        · simp only [decide_eq_false_iff_not] at e2
          rw [b4.len] at e2
          refine r17.ld (ct_May' (r := (rRaw l).1.1) o17.chs (by omega) (fun ok h56 x56 => Br.f rfl ?_) fun bad h56 x56 => Br.t rfl ?_)
          · exact pr_end (g17.ext x56) (k1 (g17.ext x56).x) (r17.ext x56) (by omega) (fun h => absurd e h) fun _ h' u => qy ⟨e, by omega, ok⟩ t h' (up (g17.ext x56).x u) (ow (g17.ext x56).x (o17.ext ECg.stab x56) u)
          · refine ct_fail (e := 11) (g17.ext x56) e fun h57 k57 g57 => ?_
            have bad : ¬ RdOk l := fun ok => bad ok.2.2
            have qn := qn bad
            unfold rErr at qn
            rw [if_pos e] at qn
            exact pr_end g57 (k1 g57.x) ((r17.ext x56).kx hne k57) (by omega) (fun _ h' u => qn h' (up g57.x u)) fun h => by cases h
      · have e : (rRaw l).2.2 ≠ 0 := by intro h; rw [h] at e; cases e
        have bad : ¬ RdOk l := fun ok => e ok.1
        have qn := qn bad
        unfold rErr at qn
        rw [if_neg e] at qn
        exact pr_end g17 (k1 g17.x) r17 (by omega) (fun _ h' u => qn h' (up g17.x u)) fun h => absurd h e
    · refine g14.ldE (Br.mk (fun e => ?_) fun e => ?_)
      · have e : st.2 = 0 := by simpa using e
        refine r14.kind (ct_readers fun h141 x141 => ⟨(r14.ext x141).kind rfl, ?_⟩)
        rcases hcase with ⟨_, rfl, hr⟩ | ⟨_, rfl, hr⟩ | ⟨h, _⟩
        · refine pickR1 (callV_fn (ct_readBatch (g14.ext x141) hkr hne (r14.ext x141) fun t' h' g' r' o' => ?_))
          rw [hr]
          exact ⟨t', g', r', o'⟩
        · refine pickR2 (callV_fn (ct_readMove (g14.ext x141) hkr hne (r14.ext x141) fun h' g' r' => ?_))
          rw [hr]
          exact ⟨_, g', r', OwnL.nil _ _ _ _ _ _⟩
        · exact absurd e h
      · have e : st.2 ≠ 0 := by intro h; rw [h] at e; cases e
        rcases hcase with ⟨h, _⟩ | ⟨h, _⟩ | ⟨_, hr⟩
        · exact absurd h e
        · exact absurd h e
        · rw [hr]; exact ⟨_, g14, r14, OwnL.nil _ _ _ _ _ _⟩
  · refine g11.ldE ⟨fun z h' => z = (decide ((rByte l (0, 0)).2.2 = 0) && decide (kd < 1 ∨ 2 < kd)) ∧ h' = h11, ?_, ?_⟩
    · rintro _ z h149 ⟨rfl, rfl⟩
      refine Br.mk (fun e => ?_) fun e => ?_
      · simp only [Bool.and_eq_true, decide_eq_true_eq] at e
        refine ct_fail (e := 11) g11 e.1 fun h150 k150 g150 => ?_
        rw [if_pos e] at hst
        subst hst
        exact ⟨g150, r11.kx hne k150⟩
      · simp only [Bool.and_eq_false_iff, decide_eq_false_iff_not] at e
        rw [if_neg (fun h => e.elim (fun h1 => h1 h.1) fun h1 => h1 h.2)] at hst
        subst hst
        exact ⟨g11, r11⟩
    · refine Br.mk (fun e => ?_) fun e => ⟨?_, rfl⟩
      · have e : (rByte l (0, 0)).2.2 = 0 := by simpa using e
        rw [decide_eq_true e, Bool.true_and]
        refine r11.kind (Br.mk (fun e1 => ⟨?_, rfl⟩) fun e1 => r11.kind ⟨?_, rfl⟩)
        · simp only [decide_eq_true_eq] at e1
          have e1 : (kd : Int) < 1 := e1
          exact (decide_eq_true (.inl (by omega))).symm
        · simp only [decide_eq_false_iff_not] at e1
          have e1 : ¬ (kd : Int) < 1 := e1
          exact decide_eq_decide.2 ⟨fun h => .inr (by have h : (kd : Int) > 2 := h; omega), fun h => by show (kd : Int) > 2; omega⟩
      · have e : (rByte l (0, 0)).2.2 ≠ 0 := by intro h; rw [h] at e; cases e
        rw [decide_eq_false e, Bool.false_and]
end
end Go.Dn.W

set_option linter.unusedVariables false
namespace Go.Dn.W
open Go Go.Dn Go.Proofs

section
variable {h0 h : Mem} {k : Nat} {tt : TypeId} {b : Sl} {l : List UInt8} {s : Nat × Nat}
theorem ct_ref10_Read {Q : Int → Int → Sl → Int → Int → Int → Int → Int → Mem → Prop} (hb : BytesSl h b l) (hc : b.len ≤ b.cap) (hl : l.length ≤ 140737488355328)
    (qy : RdOk l → ∀ t h', Ext h.size h h' → OwnL ty_api_Change 5 ECg h' h.size h.size t (rRaw l).1.2 → Q (rRaw l).1.1.kind (rRaw l).1.1.seq t (rRaw l).1.1.ms (rRaw l).1.1.mf (rRaw l).1.1.mt (rRaw l).1.1.mn 0 h')
    (qn : ¬ RdOk l → ∀ h', Ext h.size h h' → Q 0 0 NS 0 0 0 0 (rErr l : Int) h') :
    CallF PG fn_dunnageref10_Read [sval b] (.tup [.agg [.int .i64, .int .u64, .sl, .int .u64, .int .i64, .int .i64, .int .i64], .leaf (.int .i64)]) h Q := by
  refine call_dunnageref10_Read (b := b) (New.go fun h2 _ x2 z2 r2 => New.go fun h4 _ x4 z4 r4 => ?_)
  have r1 : RecC h2 h.size ZR NS := r2
  have g4 : Rdg h2 h4 h2.size RD b l (0, 0) := ⟨hb.ext x2, x4, Nat.le_refl _, r4, hl, Nat.zero_le _, hc⟩
  refine ct_rd_Byte g4 fun h6 k6 g6 => New.go fun h8 _ x8 z8 r8 => ?_
  have z6 := k6.size
  have hkd2 := (rByte_at (l := l) (s := (0, 0)) (Nat.zero_le _)).2
  rw [i64_eq (n := ((rByte l (0, 0)).1 : Int)) (by omega) (by omega)]
  refine St.rec (r := ⟨((rByte l (0, 0)).1 : Int), 0, 0, 0, 0, 0⟩) (t := NS) r8 rfl fun h9 u9 r9 => ?_
  have g9 := (g6.ext x8).upd (by omega) (by omega) u9
  have hkr : h2.size ≤ h6.size := by omega
  have hne : h6.size ≠ h2.size := by omega
  have k1 : ∀ {H : Mem}, Ext h2.size h2 H → RecC H h.size ZR NS := fun x => (x.block _ (by omega)).trans r1
  have up : ∀ {H H' : Mem}, Ext h2.size h2 H → Upd h.size H H' → Ext h.size h H' := fun x u => (x2.trans (x.less (by omega))).trans (u.ext (Nat.le_refl _))
  refine ⟨fun h' => ∃ t, Rdg h2 h' h2.size RD b l (rRaw l).2 ∧ RecC h' h6.size (rRaw l).1.1 t ∧ OwnL ty_api_Change 5 ECg h' h2.size h2.size t (rRaw l).1.2, ?_, ?_⟩
  · rintro _ h12 ⟨t, g12, r12, o12⟩
    have fit := rRaw_fit (l := l)
    have ow : ∀ {H H' : Mem}, Ext h2.size h2 H → OwnL ty_api_Change 5 ECg H h2.size h2.size t (rRaw l).1.2 → Upd h.size H H' → OwnL ty_api_Change 5 ECg H' h.size h.size t (rRaw l).1.2 := fun x o u => OwnL.base (o.upd (k1 x) (by decide) u) (by omega) fun _ _ h => h
    refine g12.ldE (Br.mk (fun e => ?_) fun e => ?_)
    · have e : (rRaw l).2.2 ≠ 0 := by intro h; rw [h] at e; cases e
      have bad : ¬ RdOk l := fun ok => e ok.1
      have qn := qn bad
      unfold rErr at qn
      rw [if_neg e] at qn
      refine g12.ldE (St.rec (r := ZR) (t := NS) (k1 g12.x) rfl fun h15 u15 r15 => ⟨?_, r15.ld (qn h15 (up g12.x u15))⟩)
      exact Ld.e (by rw [add_off]; exact row_cell ((u15.block h2.size (by omega)).trans g12.r) rfl) rfl
    · have e : (rRaw l).2.2 = 0 := by simpa using e
      refine ct_rd_Left g12 (Br.mk (fun e2 => ?_) fun e2 => ?_)
      · simp only [gt_iff_lt, decide_eq_true_eq] at e2
        have bad : ¬ RdOk l := fun ok => by have := ok.2.1; omega
        have qn := qn bad
        unfold rErr at qn
        rw [if_pos e] at qn
        exact St.rec (r := ZR) (t := NS) (k1 g12.x) rfl fun h15 u15 r15 => r15.ld (qn h15 (up g12.x u15))
      · simp only [gt_iff_lt, decide_eq_false_iff_not] at e2
        refine r12.ld (ct_ref10_May (r := (rRaw l).1.1) o12.chs (by omega) (fun c hc => by have := (fit.2.1 c hc).1; omega) (fun ok h42 x42 => Br.f rfl ?_) fun bad h42 x42 => Br.t rfl ?_)
        · exact (r12.ext x42).ld (St.rec (k1 (g12.ext x42).x) rfl fun h58 u58 r58 => r58.ld (qy ⟨e, by omega, ok⟩ t h58 (up (g12.ext x42).x u58) (ow (g12.ext x42).x (o12.ext ECg.stab x42) u58)))
        · have bad : ¬ RdOk l := fun ok => bad ok.2.2
          have qn := qn bad
          unfold rErr at qn
          rw [if_pos e] at qn
          exact St.rec (r := ZR) (t := NS) (k1 (g12.ext x42).x) rfl fun h15 u15 r15 => r15.ld (qn h15 (up (g12.ext x42).x u15))
  · refine g9.ldE (Br.mk (fun e => ?_) fun e => ?_)
    · have e : (rByte l (0, 0)).2.2 ≠ 0 := by intro h; rw [h] at e; cases e
      have hr : rRaw l = ((⟨((rByte l (0, 0)).1 : Int), 0, 0, 0, 0, 0⟩, []), (rByte l (0, 0)).2) := by unfold rRaw; rw [if_neg e]
      rw [hr]
      exact ⟨NS, g9, r9, OwnL.nil _ _ _ _ _ _⟩
    · have e : (rByte l (0, 0)).2.2 = 0 := by simpa using e
      refine r9.kind (Br.mk (fun e1 => ?_) fun e1 => r9.kind (Br.mk (fun e2 => ?_) fun e2 => ?_))
      · have e1 : (rByte l (0, 0)).1 = 1 := by
          simp only [beq_iff_eq] at e1
          have e1 : ((rByte l (0, 0)).1 : Int) = 1 := e1
          omega
        have hr : rRaw l = rBatch l (rByte l (0, 0)).2 := by unfold rRaw; rw [if_pos e, if_pos e1]
        rw [hr]
        rw [e1] at r9
        generalize (rByte l (0, 0)).2 = s0 at *
        refine ct_rd_Num g9 fun h69 k69 g69 => ?_
        refine (r9.kx hne k69).stSeq fun h70 u70 r70 => ?_
        refine ct_rd_Most (m := 32) (g69.upd hkr (fun e => hne e.symm) u70) (by decide) fun h72 k72 g72 => ?_
        have r72 := r70.kx hne k72
        have hN := (rMost_at (m := 32) (g69.upd hkr (fun e => hne e.symm) u70).at_).2
        unfold rBatch
        generalize (rMost 32 l (rNum l s0).2).1 = N at *
        generalize (rMost 32 l (rNum l s0).2).2 = st0 at *
        refine ⟨fun n h' => ∃ (i : Nat) (cs : List Cg) (st : Nat × Nat) (t : Sl), n = (i : Int) ∧ Bat l N st0 i cs st ∧ Rdg h2 h' h2.size RD b l st ∧ RecC h' h6.size ⟨1, ((rNum l s0).1 : Int), 0, 0, 0, 0⟩ t ∧ OwnL ty_api_Change 5 ECg h' h2.size h2.size t cs, fun n _ => N - n.toNat,
          ⟨0, [], st0, NS, rfl, ⟨rfl, rfl, .inl hN⟩, g72, r72, OwnL.nil _ _ _ _ _ _⟩, ?_⟩
        rintro _ n h77 ⟨i, cs, st, t, rfl, hbat, g77, r77, o77⟩
        have fin : N ≤ i ∨ st.2 ≠ 0 → ∃ t, Rdg h2 h77 h2.size RD b l (rChanges l N st0).2 ∧ RecC h77 h6.size ⟨1, ((rNum l s0).1 : Int), 0, 0, 0, 0⟩ t ∧ OwnL ty_api_Change 5 ECg h77 h2.size h2.size t (rChanges l N st0).1 := fun h => by
          rw [hbat.done h]; exact ⟨t, g77, r77, o77⟩
        refine Br.mk (fun e3 => g77.ldE (Br.mk (fun e4 => ?_) fun e4 => ?_)) fun e3 => ?_
        · have e3 : i < N := by simp only [decide_eq_true_eq] at e3; omega
          have e4 : st.2 = 0 := by simpa using e4
          have hcs : cs.length ≤ 1000 := by rw [hbat.len]; omega
          have nxt := hbat.step e3 e4
          refine r77.chs (ct_change g77 fun h85 k85 g85 => ⟨(r77.kx hne k85).chs rfl, New.go fun h88 _ x88 z88 r88 => ⟨((r77.kx hne k85).ext x88).chs rfl, ?_⟩⟩)
          refine ((o77.kx g77.r rd_chg k85).ext ECg.stab x88).pushC (c := (rChange l st).1) (g85.ext x88) rd_chg ((r77.kx hne k85).ext x88) hcs r88 fun t' h91 g91 r91 o91 => ?_
          refine r91.stChs fun h92 u92 r92 => ?_
          rw [wrap_succ (by omega)]
          exact ⟨⟨i + 1, _, _, t', rfl, nxt, g91.upd hkr (fun e => hne e.symm) u92, r92, o91.upd r91 (by decide) u92⟩, by simp only [Int.toNat_natCast]; omega⟩
        · have e4 : st.2 ≠ 0 := by intro h; rw [h] at e4; cases e4
          exact fin (.inr e4)
        · exact fin (.inl (by simp only [decide_eq_false_iff_not] at e3; omega))
      · have e1 : (rByte l (0, 0)).1 ≠ 1 := by
          simp only [beq_eq_false_iff_ne, ne_eq] at e1
          have e1 : ¬ ((rByte l (0, 0)).1 : Int) = 1 := e1
          omega
        have e2 : (rByte l (0, 0)).1 = 2 := by
          simp only [beq_iff_eq] at e2
          have e2 : ((rByte l (0, 0)).1 : Int) = 2 := e2
          omega
        have hr : rRaw l = rMove l (rByte l (0, 0)).2 := by unfold rRaw; rw [if_pos e, if_neg e1, if_pos e2]
        rw [hr]
        rw [e2] at r9
        refine ct_rd_Num g9 fun h95 k95 g95 => ct_rd_Most (m := 4611686018427387904) g95 (Nat.le_refl _) fun h97 k97 g97 => ct_rd_Most (m := 4611686018427387904) g97 (Nat.le_refl _) fun h99 k99 g99 => ct_rd_Most (m := 4611686018427387904) g99 (Nat.le_refl _) fun h101 k101 g101 => ?_
        exact (r9.kx hne (k95.trans (k97.trans (k99.trans k101)))).stMove fun h102 u102 r102 => ⟨NS, g101.upd hkr (fun e => hne e.symm) u102, r102, OwnL.nil _ _ _ _ _ _⟩
      · have e1 : (rByte l (0, 0)).1 ≠ 1 := by
          simp only [beq_eq_false_iff_ne, ne_eq] at e1
          have e1 : ¬ ((rByte l (0, 0)).1 : Int) = 1 := e1
          omega
        have e2 : (rByte l (0, 0)).1 ≠ 2 := by
          simp only [beq_eq_false_iff_ne, ne_eq] at e2
          have e2 : ¬ ((rByte l (0, 0)).1 : Int) = 2 := e2
          omega
        have hr : rRaw l = ((⟨((rByte l (0, 0)).1 : Int), 0, 0, 0, 0, 0⟩, []), ((rByte l (0, 0)).2.1, 11)) := by unfold rRaw; rw [if_pos e, if_neg e1, if_neg e2]
        rw [hr]
        exact g9.stE (e := 11) fun h103 k103 g103 => ⟨NS, g103, r9.kx hne k103, OwnL.nil _ _ _ _ _ _⟩
end
end Go.Dn.W

set_option linter.unusedVariables false
namespace Go.Dn.W
open Go Go.Dn Go.Proofs

section
variable {h : Mem}
theorem OwnB.storeNext {B g n cap : Nat} {l : List UInt8} {u : UInt8} {K : Mem → Prop} (x : OwnB h B ty_uint8 ⟨some ⟨g, 0, none⟩, n, cap⟩ l) (hc : n < cap)
    (hk : ∀ h', OwnB h' B ty_uint8 ⟨some ⟨g, 0, none⟩, n + 1, cap⟩ (l ++ [u]) → Ext B h h' → K h') : St PG ty_uint8 ((⟨g, 0, none⟩ : Addr).add (n * 1)) (.int .u8 (u.toNat : Int)) h K := by
  have hlen := OwnB.len x
  rcases x.2 with ⟨hv, _⟩ | ⟨g', cap', cur, hv', hB, hg, hc', hm, hcs, htk⟩
  · simp at hv
  · simp only [Value.slice.injEq, Option.some.injEq, Addr.mk.injEq, and_true, true_and] at hv'
    obtain ⟨rfl, rfl⟩ := hv'
    have hg : h[g]? = some (.cells cur ty_uint8 (0, 0)) := hg
    rw [add_off, Nat.zero_add, Nat.mul_one]
    refine St.row und_u8 (vs := [bcell u]) rfl sz_u8 (by intro v hv; simp only [List.mem_cons, List.not_mem_nil, or_false] at hv; subst hv; rfl) hg (by rw [hcs]; show n + 1 ≤ _; omega) fun h' u' r => ?_
    refine hk h' ⟨?_, .inr ⟨g, cap, _, rfl, hB, r, hc, hm, ?_, ?_⟩⟩ (u'.ext hB)
    · show ((l ++ [u]).map bcell).length = (n + 1) * 1
      have hlen : n = l.length := hlen
      rw [List.length_map, List.length_append, hlen]; simp
    · simp only [List.size_toArray, List.length_append, List.length_take, List.length_drop, Array.length_toList, List.length_cons, List.length_nil]
      show min n cur.size + (0 + 1) + (cur.size - (n + (0 + 1))) = _
      omega
    · have htk : cur.toList.take (n * 1) = l.map bcell := htk
      rw [Nat.mul_one] at htk
      show ((cur.toList.take n ++ [bcell u] ++ cur.toList.drop (n + 1)).take ((n + 1) * 1)) = _
      have e1 : (l.map bcell ++ [bcell u]).length = (n + 1) * 1 := by
        have hlen : n = l.length := hlen
        rw [List.length_append, List.length_map, hlen]; simp
      rw [htk, ← e1, List.take_left, List.map_append]
      rfl
theorem BytesSl.ldAt {b : Sl} {l : List UInt8} (hb : BytesSl h b l) {a : Nat} {c : UInt8} {K : Int → Prop} (hc : l[a]? = some c) (hk : K (c.toNat : Int)) :
    Idx b.a b.len (a : Int) fun p => Ld PG ty_uint8 (p.add ((a : Int).toNat * 1)) (Kd.one (Cmp.leaf (Leaf.int IntKind.u8))) h K := by
  have hlt := (List.getElem?_eq_some_iff.1 hc).1
  obtain ⟨ba, hba⟩ : ∃ a, b.a = some a := by
    cases hh : b.a with
    | none => have := hb.at_; rw [hh] at this; rw [show l = [] from this] at hc; simp at hc
    | some a => exact ⟨a, rfl⟩
  have hcell := hb.at_
  rw [hba] at hcell
  refine Idx.mk hba (by rw [hb.len]; exact hlt) ?_
  rw [nat_mul, Nat.mul_one]
  exact Ld.cell (l := .int .u8) (x := (c.toNat : Int)) und_b agg_b (hcell _ c hc) hk
theorem BytesSl.prefixB {a : Option Addr} {n m cap : Nat} {l r : List UInt8} (x : BytesSl h ⟨a, m, cap⟩ (l ++ r)) (hn : n = l.length) (hc : a = none → cap = 0) : BytesSl h ⟨a, n, cap⟩ l := by
  refine ⟨hn, ?_, hc⟩
  have := x.at_
  show BytesAt h a l
  have this : BytesAt h a (l ++ r) := this
  cases a with
  | none => exact (List.append_eq_nil_iff.1 this).1
  | some p => exact fun i b hb => this i b (by rw [List.getElem?_append_left (List.getElem?_eq_some_iff.1 hb).1]; exact hb)

def fillB (f : UInt8) : List UInt8 := [f, f, f]
theorem take_fillB (f : UInt8) {j : Nat} (hj : j < 3) : (fillB f).take (j + 1) = (fillB f).take j ++ [f] := by
  match j, hj with
  | 0, _ => rfl
  | 1, _ => rfl
  | 2, _ => rfl
theorem get_fillB (f : UInt8) {j : Nat} (hj : j < 3) : (fillB f)[j]? = some f := by
  match j, hj with
  | 0, _ => rfl
  | 1, _ => rfl
  | 2, _ => rfl
theorem ct_OwnB {s : Sl} {l : List UInt8} {f : UInt8} {Q : Sl → Mem → Prop} (a : BytesSl h s l) (hl : l.length + 3 ≤ 140737488355328)
    (q : ∀ s' h', Ext h.size h h' → OwnB h' h.size ty_uint8 ⟨s'.a, l.length + 3, s'.cap⟩ (l ++ fillB f) → s'.len = l.length → s'.cap = l.length + 3 → (∃ g, s'.a = some g) → Q s' h') :
    CallF PG fn_dunnagehelp_Own_byte_ [sval s, .int .u8 (f.toNat : Int)] (.one (.leaf .sl)) h Q := by
  obtain ⟨sa, sl, sc⟩ := s
  obtain rfl : sl = l.length := a.len
  refine call_dunnagehelp_Own_byte_ (l := ⟨sa, l.length, sc⟩) ?_
  unfold wp_dunnagehelp_Own_byte_
  dsimp only
  rw [show IntKind.i64.wrap ((l.length : Int) + 3) = ((l.length + 3 : Nat) : Int) by rw [i64_eq (by omega) (by omega)]; omega]
  refine make_own und_bytes info_u8 (by omega) (by omega) fun h4 o4 x4 => ?_
  have key := fun K : Sl → Mem → Prop => append_room (K := K) (P := PG) (t := ty_sl_uint8) (ty := ty_sl_uint8) (v := ⟨sa, l.length, sc⟩) (news := l.map bcell) und_bytes info_u8 o4 (by rw [List.length_map]; simp) (fun p hp => (a.cells p hp).ext x4)
    (fun hn => a.nil0 hn) one_bcell (by show 0 + l.length ≤ l.length + 3; omega) rfl
  refine key _ fun h6 o6 g6 z6 => ?_
  have e0 : (0 + l.length) = l.length := by omega
  have o6' : OwnB h6 h.size ty_uint8 ⟨some ⟨h.size, 0, none⟩, l.length, l.length + 3⟩ l := by
    unfold OwnB
    simpa using o6
  have x26 : Ext h.size h h6 := x4.trans (Owns.grownExt o4 x4.size g6)
  refine Cut.hi (by show l.length + 3 ≤ l.length + 3; exact Nat.le_refl _) ?_
  rw [cutSl_zero]
  refine ⟨fun n h' => ∃ j : Nat, n = ((l.length + j : Nat) : Int) ∧ j ≤ 3 ∧ OwnB h' h.size ty_uint8 ⟨some ⟨h.size, 0, none⟩, l.length + j, l.length + 3⟩ (l ++ (fillB f).take j) ∧ Ext h.size h h', fun n _ => l.length + 3 - n.toNat, ⟨0, rfl, by omega, by simpa using o6', x26⟩, ?_⟩
  rintro _ n h12 ⟨j, rfl, hj, o12, x12⟩
  refine Br.mk (fun e1 => ?_) fun e1 => ?_
  · have e1 : ((l.length + j : Nat) : Int) < ((l.length + 3 : Nat) : Int) := by simpa using e1
    refine Idx.mk rfl (show l.length + j < l.length + 3 by omega) ?_
    rw [nat_mul]
    refine OwnB.storeNext o12 (by omega) fun h19 o19 x19 => ?_
    rw [wrap_succ (by omega)]
    refine ⟨⟨j + 1, rfl, by omega, ?_, x12.trans x19⟩, by simp only [Int.toNat_natCast]; omega⟩
    rw [take_fillB f (by omega), ← List.append_assoc]; exact o19
  · have e1 : ¬ ((l.length + j : Nat) : Int) < ((l.length + 3 : Nat) : Int) := by simpa using e1
    have : j = 3 := by omega
    subst this
    exact q _ _ x12 o12 e0 rfl ⟨_, rfl⟩
theorem ct_KeptB {s t : Sl} {l : List UInt8} {f : UInt8} {Q : Bool → Mem → Prop} (a : BytesSl h s l) (b : BytesSl h t l) (full : BytesSl h ⟨s.a, l.length + 3, s.cap⟩ (l ++ fillB f)) (hc : s.cap = l.length + 3) (hl : l.length ≤ 140737488355320)
    (q : Q true h) : CallF PG fn_dunnagehelp_Kept_byte_ [sval s, sval t, .int .u8 (f.toNat : Int)] (.one (.leaf .bool)) h Q := by
  have la := a.len
  have lb := b.len
  refine call_dunnagehelp_Kept_byte_ (call_dunnagehelp_Plain_byte_ (call_dunnagehelp_Same_byte_ (Br.f (by rw [la, lb]; simp) ?_)))
  refine ⟨fun n h' => ∃ i : Nat, n = (i : Int) ∧ i ≤ l.length ∧ h' = h, fun n _ => l.length - n.toNat, ⟨0, rfl, Nat.zero_le _, rfl⟩, ?_⟩
  rintro _ n h4 ⟨i, rfl, hi, rfl⟩
  refine Br.mk (fun e1 => ?_) fun _ => Br.f rfl ?_
  · simp only [decide_eq_true_eq] at e1
    rw [la] at e1
    obtain ⟨c, hcc⟩ : ∃ c, l[i]? = some c := ⟨_, List.getElem?_eq_getElem (by omega)⟩
    refine BytesSl.ldAt a hcc (BytesSl.ldAt b hcc (callV_fn (call_dunnagehelp_Plain_byte_1 ?_)))
    refine Br.f (by simp) ?_
    rw [wrap_succ (by omega)]
    exact ⟨⟨i + 1, rfl, by omega, rfl⟩, by simp only [Int.toNat_natCast]; omega⟩
  · rw [lb, show IntKind.i64.wrap ((l.length : Int) + 3) = ((l.length + 3 : Nat) : Int) by rw [i64_eq (by omega) (by omega)]; omega]
    refine Br.f (by rw [hc]; simp) (Cut.hi (by omega) ?_)
    rw [cutSl_zero]
    refine ⟨fun n h' => ∃ j : Nat, n = ((l.length + j : Nat) : Int) ∧ j ≤ 3 ∧ h' = h4, fun n _ => l.length + 3 - n.toNat, ⟨0, rfl, by omega, rfl⟩, ?_⟩
    rintro _ n h10 ⟨j, rfl, hj, rfl⟩
    refine Br.mk (fun e1 => ?_) fun _ => q
    have e1 : ((l.length + j : Nat) : Int) < ((l.length + 3 : Nat) : Int) := by simpa using e1
    refine BytesSl.ldAt full (c := f) (by rw [List.getElem?_append_right (by omega), show l.length + j - l.length = j by omega]; exact get_fillB f (by omega)) ?_
    refine Br.f (by simp) ?_
    rw [wrap_succ (by omega)]
    exact ⟨⟨j + 1, rfl, by omega, rfl⟩, by simp only [Int.toNat_natCast]; omega⟩

/-! ### records -/
theorem ct_plain_chgs {s t : Sl} {l : List Cg} {Q : Bool → Mem → Prop} (a : ChsAt h s l) (b : ChsAt h t l) (hl : l.length ≤ 140737488355320) (q : ∀ h', Ext h.size h h' → Q true h') :
    CallF PG fn_dunnagehelp_Plain_api_Change_ [sval s, sval t] (.one (.leaf .bool)) h Q := by
  have la := a.len
  have lb := b.len
  refine call_dunnagehelp_Plain_api_Change_ (call_dunnagehelp_Same_api_Change_ (Br.f (by rw [la, lb]; simp) ?_))
  refine ⟨fun n h' => ∃ i : Nat, n = (i : Int) ∧ i ≤ l.length ∧ Ext h.size h h', fun n _ => l.length - n.toNat, ⟨0, rfl, Nat.zero_le _, Ext.refl _ _⟩, ?_⟩
  rintro _ n h4 ⟨i, rfl, hi, x4⟩
  refine Br.mk (fun e1 => ?_) fun _ => q _ x4
  simp only [decide_eq_true_eq] at e1
  rw [la] at e1
  obtain ⟨c, hcc⟩ : ∃ c, l[i]? = some c := ⟨_, List.getElem?_eq_getElem (by omega)⟩
  obtain ⟨ad, ha, h1⟩ := (a.ext x4).at_ i c hcc
  obtain ⟨bd, hb, h2'⟩ := (b.ext x4).at_ i c hcc
  refine Idx.mk ha (by omega) ?_
  rw [nat_mul]
  refine Ld.cg h1 (Idx.mk hb (by omega) ?_)
  refine Ld.cg h2' (callV_fn (ct_plain_chg fun h19 x19 => Br.f (by simp) ?_))
  rw [wrap_succ (by omega)]
  exact ⟨⟨i + 1, rfl, by omega, x4.after x19⟩, by simp only [Int.toNat_natCast]; omega⟩
theorem RecC.ldSeq {kr : Nat} {r : Rc} {t : Sl} (x : RecC h kr r t) {K : Int → Prop} (hk : K r.seq) : Ld PG ty_uint64 ((⟨kr, 0, none⟩ : Addr).add 1) (.one (.leaf (.int .u64))) h K := Ld.u (by rw [add_off]; exact row_cell x rfl) hk
theorem RecC.ldMove {kr : Nat} {r : Rc} {t : Sl} (x : RecC h kr r t) {K : Int → Int → Int → Int → Prop} (hk : K r.ms r.mf r.mt r.mn) : Ld PG ty_api_Move ((⟨kr, 0, none⟩ : Addr).add 3) (.one (.agg [.int .u64, .int .i64, .int .i64, .int .i64])) h K := Ld.move (rec_move x) hk
theorem ct_Record {r : Rc} {s t : Sl} {l : List Cg} {Q : Bool → Mem → Prop} (a : ChsAt h s l) (b : ChsAt h t l) (hl : l.length ≤ 140737488355320) (q : ∀ h', Ext h.size h h' → Q true h') :
    CallF PG fn_dunnagehelp_Record [.agg #[.int .i64 r.kind, .int .u64 r.seq, sval s, .int .u64 r.ms, .int .i64 r.mf, .int .i64 r.mt, .int .i64 r.mn], .agg #[.int .i64 r.kind, .int .u64 r.seq, sval t, .int .u64 r.ms, .int .i64 r.mf, .int .i64 r.mt, .int .i64 r.mn]] (.one (.leaf .bool)) h Q := by
  refine call_dunnagehelp_Record (New.go fun h2 _ x2 z2 r2 => New.go fun h4 _ x4 z4 r4 => ?_)
  have r2 : RecC h4 h.size r s := (x4.block _ (by omega)).trans r2
  have r4 : RecC h4 h2.size r t := r4
  have x04 := x2.after x4
  refine r2.kind (r4.kind (Br.t (by simp) ?_))
  refine r2.ldSeq (r4.ldSeq (Br.t (by simp) ?_))
  refine r2.chs (r4.chs (ct_plain_chgs (a.ext x04) (b.ext x04) hl fun h12 x12 => Br.t rfl ?_))
  refine (r2.ext x12).ldMove ((r4.ext x12).ldMove (EqP.move (.inl rfl) ?_))
  rw [if_pos rfl]
  simpa using q h12 (x04.after x12)

/-! ### the law of reading -/
structure BytesC (h : Mem) (s : Sl) (l : List UInt8) : Prop where
  bytes : BytesSl h s l
  cap : s.len ≤ s.cap
  len : l.length ≤ 140737488351232
theorem in_bytesC {H : Type} {enc : TypeId × Value → H} {w : World} {v : Value} {base : Nat} (ok : Value.okWide PG w .any base ty_sl_uint8 v) (a : Arg enc PG w ty_sl_uint8 v.cells.toList 140737488351232) : ∃ (s : Sl) (l : List UInt8), v = sval s ∧ BytesC w.heap s l := by
  obtain ⟨s, l, rfl, hb, hl⟩ := in_bytes ok a
  obtain ⟨s', e, _, hc, _⟩ := a.slice und_bytes
  refine ⟨s, l, rfl, hb, ?_, hl⟩
  have e : [Value.slice s.a s.len s.cap] = [.slice s'.a s'.len s'.cap] := by simpa [Value.cells] using e
  simp only [List.cons.injEq, Value.slice.injEq, and_true] at e
  rw [e.2.1, e.2.2]; exact hc
theorem law_BatchReads {b : Sl} {l : List UInt8} {Q : Bool → Mem → Prop} (hb : BytesC h b l) (q : ∀ h', Ext h.size h h' → Q true h') : wp_dunnagelaw10_BatchReads b h Q := by
  have hl := hb.len
  have fit := rRaw_fit (l := l)
  refine ct_OwnB (f := 71) hb.bytes (by omega) fun s1 h2 x2 o2 hlen hcap hg => ?_
  obtain ⟨g, hg⟩ := hg
  have full := OwnB.bytes o2
  have b2 : BytesSl h2 s1 l := by
    have := BytesSl.prefixB (n := s1.len) full hlen (fun hn => by rw [hg] at hn; cases hn)
    exact this
  have fin : ∀ (r : Rc) (cs : List Cg) (e : Int) (s5 s17 : Sl) (h11 h23 : Mem) (hcs : cs.length ≤ 32), Ext h2.size h2 h11 → ChsAt h11 s5 cs → ∀ k12 h14, RecC h14 k12 r s5 → Ext h11.size h11 h14 → Ext h14.size h14 h23 → ChsAt h23 s17 cs → ∀ k24 h26, RecC h26 k24 r s17 → Ext h23.size h23 h26 →
      CallF PG fn_dunnagelaw10_awake [] (Kd.one (Cmp.leaf Leaf.bool)) h26 fun (b27 : Bool) (h28 : Mem) =>
        Br b27
          (Ld PG ty_api_Record (Addr.mk k12 0 none) recKd h28 fun (n29 n30 : Int) (s31 : Sl) (n32 n33 n34 n35 : Int) =>
            Ld PG ty_api_Record (Addr.mk k24 0 none) recKd h28 fun (n36 n37 : Int) (s38 : Sl) (n39 n40 n41 n42 : Int) =>
              CallF PG fn_dunnagehelp_Record
                [Value.agg #[Value.int IntKind.i64 n29, Value.int IntKind.u64 n30, Value.slice s31.a s31.len s31.cap, Value.int IntKind.u64 n32, Value.int IntKind.i64 n33, Value.int IntKind.i64 n34, Value.int IntKind.i64 n35],
                  Value.agg #[Value.int IntKind.i64 n36, Value.int IntKind.u64 n37, Value.slice s38.a s38.len s38.cap, Value.int IntKind.u64 n39, Value.int IntKind.i64 n40, Value.int IntKind.i64 n41, Value.int IntKind.i64 n42]]
                (Kd.one (Cmp.leaf Leaf.bool)) h28 fun (b43 : Bool) (h44 : Mem) =>
                Br b43
                  (Br (e == e)
                    (CallF PG fn_dunnagehelp_Kept_byte_ [Value.slice s1.a s1.len s1.cap, Value.slice b.a b.len b.cap, Value.int IntKind.u8 71] (Kd.one (Cmp.leaf Leaf.bool)) h44 fun (b45 : Bool) (h46 : Mem) => Q b45 h46)
                    (Q false h44))
                  (Q false h44))
          (Q false h28) := fun r cs e s5 s17 h11 h23 hcs x11 c5 k12 h14 r14 x14 x23 c17 k24 h26 r26 x26 => by
    refine ct_awake10 fun h28 x28 => Br.t rfl ?_
    refine ((r14.ext x23).ext (x26.after x28)).ld ((r26.ext x28).ld (ct_Record (r := r) ((c5.ext (x14.after x23)).ext (x26.after x28)) (c17.ext (x26.after x28)) (by omega) fun h44 x44 => Br.t rfl (Br.t (by simp) ?_)))
    have xx : Ext h2.size h2 h44 := x11.after ((x14.after x23).after ((x26.after x28).after x44))
    exact ct_KeptB (f := 71) (b2.ext xx) (hb.bytes.ext (x2.after xx)) (full.ext xx) hcap (by omega) (q _ (x2.after xx))
  by_cases ok : RdOk l
  · refine ct_batch_Read b2 (by omega) (fun _ s5 h11 x11 o11 => New.go fun h13 _ x13 z13 r13 => ?_) fun bad => absurd ok bad
    refine St.rec r13 rfl fun h14 u14 r14 => ?_
    have x1114 : Ext h11.size h11 h14 := x13.trans (u14.ext (Nat.le_refl _))
    have x014 : Ext h.size h h14 := x2.after (x11.after x1114)
    refine ct_ref10_Read (hb.bytes.ext x014) hb.cap (by omega) (fun _ s17 h23 x23 o23 => New.go fun h25 _ x25 z25 r25 => ?_) fun bad => absurd ok bad
    refine St.rec r25 rfl fun h26 u26 r26 => ?_
    exact fin _ _ 0 s5 s17 h11 h23 fit.1 x11 o11.chs _ _ r14 x1114 x23 o23.chs _ _ r26 (x25.trans (u26.ext (Nat.le_refl _)))
  · refine ct_batch_Read b2 (by omega) (fun ok' => absurd ok' ok) fun _ h11 x11 => New.go fun h13 _ x13 z13 r13 => ?_
    refine St.rec (r := ZR) (t := NS) r13 rfl fun h14 u14 r14 => ?_
    have x1114 : Ext h11.size h11 h14 := x13.trans (u14.ext (Nat.le_refl _))
    have x014 : Ext h.size h h14 := x2.after (x11.after x1114)
    refine ct_ref10_Read (hb.bytes.ext x014) hb.cap (by omega) (fun ok' => absurd ok' ok) fun _ h23 x23 => New.go fun h25 _ x25 z25 r25 => ?_
    refine St.rec (r := ZR) (t := NS) r25 rfl fun h26 u26 r26 => ?_
    exact fin ZR [] (rErr l : Int) NS NS h11 h23 (by decide) x11 (OwnL.nil ty_api_Change 5 ECg h11 0 0).chs _ _ r14 x1114 x23 (OwnL.nil ty_api_Change 5 ECg h23 0 0).chs _ _ r26 (x25.trans (u26.ext (Nat.le_refl _)))
end
end Go.Dn.W

set_option linter.unusedVariables false
namespace Go.Dn.W
open Go Go.Dn Go.Proofs

theorem ne11 : ¬ (11 : Nat) = 0 := by decide
theorem ne10 : ¬ (10 : Nat) = 0 := by decide
theorem ne4 : ¬ (4 : Nat) = 0 := by decide
/-! ### what goes on behind plays no part -/
theorem rdVar_ext {t : List UInt8} : ∀ (l : List UInt8) (k v w n : Nat), rdVar l k v = .ok w n → rdVar (l ++ t) k v = .ok w n
  | [], k, v, w, n, h => by simp [rdVar] at h
  | c :: b, k, v, w, n, h => by
    rw [List.cons_append, rdVar]
    rw [rdVar] at h
    split at h
    · cases h
    · rename_i hb
      rw [if_neg hb]
      split at h
      · rename_i hc
        rw [if_pos hc]; exact rdVar_ext b _ _ w n h
      · rename_i hc
        rw [if_neg hc]; exact h
section
variable {l t : List UInt8} {s : Nat × Nat} {m : Nat}
theorem rNum_0 (h : (rNum l s).2.2 = 0) : s.2 = 0 := by
  obtain ⟨a, e⟩ := s
  by_cases he : e = 0
  · exact he
  · rw [rNum_err he] at h; exact absurd h he
theorem rMost_0 (h : (rMost m l s).2.2 = 0) : rMost m l s = rNum l s ∧ (rNum l s).1 ≤ m ∧ (rNum l s).2.2 = 0 := by
  by_cases hm : (rNum l s).1 > m
  · rw [rMost_bad hm] at h; exact absurd h ne11
  · rw [rMost_ok hm] at h; exact ⟨rMost_ok hm, by omega, h⟩
theorem rByte_0 (h : (rByte l s).2.2 = 0) : s.2 = 0 := by
  obtain ⟨a, e⟩ := s
  by_cases he : e = 0
  · exact he
  · rw [rByte_err he] at h; exact absurd h he
theorem rText_0 (h : (rText m l s).2.2 = 0) : s.2 = 0 := by
  obtain ⟨a, e⟩ := s
  by_cases he : e = 0
  · exact he
  · rw [rText_err he] at h; exact absurd h he
/-- a number that was read -/
theorem rNum_is (h : (rNum l s).2.2 = 0) : ∃ n, s.2 = 0 ∧ rdVar (l.drop s.1) 0 0 = .ok (rNum l s).1 n ∧ rNum l s = ((rNum l s).1, s.1 + n, 0) := by
  have h0 := rNum_0 h
  obtain ⟨a, e⟩ := s
  obtain rfl : e = 0 := h0
  rcases rd_cases (rdVar (l.drop a) 0 0) with ⟨v, n, hd⟩ | hd | hd
  · exact ⟨n, rfl, by rw [rNum_ok hd]; exact hd, by rw [rNum_ok hd]⟩
  · rw [rNum_form hd] at h; exact absurd h ne11
  · rw [rNum_short hd] at h; exact absurd h ne10
theorem rNum_ext (hs : s.1 ≤ l.length) (h : (rNum l s).2.2 = 0) : rNum (l ++ t) s = rNum l s := by
  obtain ⟨n, h0, hd, e⟩ := rNum_is h
  obtain ⟨a, z⟩ := s
  obtain rfl : z = 0 := h0
  rw [e, rNum_ok (v := (rNum l (a, 0)).1) (n := n)]
  rw [List.drop_append_of_le_length hs]
  exact rdVar_ext _ _ _ _ _ hd
theorem rMost_ext (hs : s.1 ≤ l.length) (h : (rMost m l s).2.2 = 0) : rMost m (l ++ t) s = rMost m l s := by
  obtain ⟨e, h1, h2⟩ := rMost_0 h
  have := rNum_ext (t := t) hs h2
  rw [e, rMost_ok (by rw [this]; omega), this]
theorem rByte_is (h : (rByte l s).2.2 = 0) : ∃ c, s.2 = 0 ∧ l[s.1]? = some c ∧ rByte l s = (c.toNat, s.1 + 1, 0) := by
  have h0 := rByte_0 h
  obtain ⟨a, e⟩ := s
  obtain rfl : e = 0 := h0
  by_cases hl : a < l.length
  · have hc : l[a]? = some l[a] := List.getElem?_eq_getElem hl
    exact ⟨_, rfl, hc, rByte_ok hc⟩
  · rw [rByte_none (List.getElem?_eq_none (by omega))] at h; exact absurd h ne10
theorem rByte_ext (h : (rByte l s).2.2 = 0) : rByte (l ++ t) s = rByte l s := by
  obtain ⟨c, h0, hc, e⟩ := rByte_is h
  obtain ⟨a, z⟩ := s
  obtain rfl : z = 0 := h0
  rw [e, rByte_ok (c := c)]
  rw [List.getElem?_append_left (List.getElem?_eq_some_iff.1 hc).1]; exact hc
theorem rText_is (h : (rText m l s).2.2 = 0) : ∃ v n, s.2 = 0 ∧ rdVar (l.drop s.1) 0 0 = .ok v n ∧ v ≤ m ∧ v ≤ l.length - (s.1 + n) ∧ rText m l s = ((l.drop (s.1 + n)).take v, s.1 + n + v, 0) := by
  have h0 := rText_0 h
  obtain ⟨a, e⟩ := s
  obtain rfl : e = 0 := h0
  by_cases hb : (rdTxt m l a).2.2 = 0
  · rw [rText_ok hb] at h ⊢
    rcases rd_cases (rdVar (l.drop a) 0 0) with ⟨v, n, hd⟩ | hd | hd
    · rw [rdTxt_ok hd] at hb ⊢
      by_cases h1 : v > m
      · rw [if_pos h1] at hb; exact absurd hb ne4
      · rw [if_neg h1] at hb ⊢
        by_cases h2 : v > l.length - (a + n)
        · rw [if_pos h2] at hb; exact absurd hb ne10
        · rw [if_neg h2]; exact ⟨v, n, rfl, hd, by omega, by show v ≤ l.length - (a + n); omega, rfl⟩
    · have : rdTxt m l a = ([], 0, 11) := by unfold rdTxt; rw [hd]
      rw [this] at hb; exact absurd hb ne11
    · have : rdTxt m l a = ([], 0, 10) := by unfold rdTxt; rw [hd]
      rw [this] at hb; exact absurd hb ne10
  · rw [rText_bad hb] at h; exact absurd h hb
theorem rText_mk {a v n : Nat} (hd : rdVar (l.drop a) 0 0 = .ok v n) (h1 : v ≤ m) (h2 : v ≤ l.length - (a + n)) : rText m l (a, 0) = ((l.drop (a + n)).take v, a + n + v, 0) := by
  have e : rdTxt m l a = ((l.drop (a + n)).take v, a + n + v, 0) := by rw [rdTxt_ok hd, if_neg (by omega), if_neg (by omega)]
  rw [rText_ok (by rw [e]), e]
theorem rText_ext (hs : s.1 ≤ l.length) (h : (rText m l s).2.2 = 0) : rText m (l ++ t) s = rText m l s := by
  obtain ⟨v, n, h0, hd, h1, h2, e⟩ := rText_is h
  obtain ⟨a, z⟩ := s
  obtain rfl : z = 0 := h0
  have hl := rdVar_len _ _ _ _ _ hd
  rw [List.length_drop] at hl
  dsimp only at hs h2 hl
  rw [e, rText_mk (v := v) (n := n) (by rw [List.drop_append_of_le_length hs]; exact rdVar_ext _ _ _ _ _ hd) h1 (by rw [List.length_append]; omega)]
  rw [List.drop_append_of_le_length (by omega), List.take_append_of_le_length (by rw [List.length_drop]; omega)]

def M62 : Nat := 4611686018427387904
theorem rRef_0 (h : (rRef l s).2.2 = 0) : (rNum l s).2.2 = 0 ∧ (rMost 4611686018427387904 l (rNum l s).2).2.2 = 0 ∧ (rMost 4611686018427387904 l (rMost 4611686018427387904 l (rNum l s).2).2).2.2 = 0 := by
  unfold rRef at h
  have h2 := (rMost_0 h).2.2
  have h1 := rNum_0 h2
  have h0 := rNum_0 (rMost_0 h1).2.2
  exact ⟨h0, h1, h⟩
theorem rRef_ext (hs : s.1 ≤ l.length) (h : (rRef l s).2.2 = 0) : rRef (l ++ t) s = rRef l s := by
  obtain ⟨h0, h1, h2⟩ := rRef_0 h
  have a0 := (rNum_at hs).1
  have a1 := (rMost_at (m := 4611686018427387904) a0).1
  unfold rRef
  rw [rNum_ext hs h0, rMost_ext a0 h1, rMost_ext a1 h2]
/-- a change that was read -/
theorem rChange_is (h : (rChange l s).2.2 = 0) : (rText 64 l s).2.2 = 0 ∧ (rByte l (rText 64 l s).2).2.2 = 0 ∧
    ((rByte l (rText 64 l s).2).1 = 1 ∨ (rByte l (rText 64 l s).2).1 = 0 ∧ (rRef l (rByte l (rText 64 l s).2).2).2.2 = 0) := by
  by_cases e1 : (rByte l (rText 64 l s).2).1 = 1
  · rw [rChange_1 e1] at h
    exact ⟨rByte_0 h, h, .inl e1⟩
  · by_cases e0 : (rByte l (rText 64 l s).2).1 = 0
    · rw [rChange_0 e0] at h
      have hb := rNum_0 (rRef_0 h).1
      exact ⟨rByte_0 hb, hb, .inr ⟨e0, h⟩⟩
    · rw [rChange_2 e0 e1] at h; exact absurd h ne11
theorem rChange_ext (hs : s.1 ≤ l.length) (h : (rChange l s).2.2 = 0) : rChange (l ++ t) s = rChange l s := by
  obtain ⟨h1, h2, h3⟩ := rChange_is h
  have a1 := (rText_at (m := 64) hs).1
  have a2 := (rByte_at a1).1
  have e1 := rText_ext (t := t) hs h1
  have e2 : rByte (l ++ t) (rText 64 (l ++ t) s).2 = rByte l (rText 64 l s).2 := by rw [e1]; exact rByte_ext h2
  rcases h3 with h3 | ⟨h3, h4⟩
  · rw [rChange_1 h3, rChange_1 (by rw [e2]; exact h3), e2, e1]
  · rw [rChange_0 h3, rChange_0 (by rw [e2]; exact h3), e2, e1, rRef_ext a2 h4]
end
theorem rChanges_0 {l : List UInt8} : ∀ {n : Nat} {s : Nat × Nat}, (rChanges l n s).2.2 = 0 → s.2 = 0
  | 0, s, h => h
  | n + 1, s, h => by
    rw [rChanges] at h
    split at h
    · assumption
    · exact h
theorem rChanges_ext {l t : List UInt8} : ∀ {n : Nat} {s : Nat × Nat}, s.1 ≤ l.length → (rChanges l n s).2.2 = 0 → rChanges (l ++ t) n s = rChanges l n s
  | 0, s, _, _ => rfl
  | n + 1, s, hs, h => by
    have h0 := rChanges_0 h
    rw [rChanges_go h0] at h
    have hc : (rChange l s).2.2 = 0 := rChanges_0 h
    rw [rChanges_go h0, rChanges_go h0, rChange_ext hs hc, rChanges_ext (rChange_at hs) h]
section
variable {l t : List UInt8} {s : Nat × Nat} {m : Nat}
theorem rBatch_0 (h : (rBatch l s).2.2 = 0) : (rNum l s).2.2 = 0 ∧ (rMost 32 l (rNum l s).2).2.2 = 0 := by
  have h : (rChanges l (rMost 32 l (rNum l s).2).1 (rMost 32 l (rNum l s).2).2).2.2 = 0 := h
  have h1 := rChanges_0 h
  exact ⟨rNum_0 (rMost_0 h1).2.2, h1⟩
theorem rBatch_ext (hs : s.1 ≤ l.length) (h : (rBatch l s).2.2 = 0) : rBatch (l ++ t) s = rBatch l s := by
  obtain ⟨h0, h1⟩ := rBatch_0 h
  have a0 := (rNum_at hs).1
  have a1 := (rMost_at (m := 32) a0).1
  have h : (rChanges l (rMost 32 l (rNum l s).2).1 (rMost 32 l (rNum l s).2).2).2.2 = 0 := h
  unfold rBatch
  rw [rNum_ext hs h0, rMost_ext a0 h1, rChanges_ext a1 h]
theorem rFour_0 (h : (rFour l s).2.2 = 0) : (rNum l s).2.2 = 0 ∧ (rMost 4611686018427387904 l (rNum l s).2).2.2 = 0 ∧ (rMost 4611686018427387904 l (rMost 4611686018427387904 l (rNum l s).2).2).2.2 = 0 ∧
    (rMost 4611686018427387904 l (rMost 4611686018427387904 l (rMost 4611686018427387904 l (rNum l s).2).2).2).2.2 = 0 := by
  unfold rFour at h
  have h2 := rNum_0 (rMost_0 h).2.2
  have h1 := rNum_0 (rMost_0 h2).2.2
  have h0 := rNum_0 (rMost_0 h1).2.2
  exact ⟨h0, h1, h2, h⟩
theorem rFour_ext (hs : s.1 ≤ l.length) (h : (rFour l s).2.2 = 0) : rFour (l ++ t) s = rFour l s := by
  obtain ⟨h0, h1, h2, h3⟩ := rFour_0 h
  have a0 := (rNum_at hs).1
  have a1 := (rMost_at (m := 4611686018427387904) a0).1
  have a2 := (rMost_at (m := 4611686018427387904) a1).1
  unfold rFour
  rw [rNum_ext hs h0, rMost_ext a0 h1, rMost_ext a1 h2, rMost_ext a2 h3]
/-- a record whose bytes have no fault -/
theorem rRaw_is (h : (rRaw l).2.2 = 0) : (rByte l (0, 0)).2.2 = 0 ∧ ((rByte l (0, 0)).1 = 1 ∧ rRaw l = rBatch l (rByte l (0, 0)).2 ∨ (rByte l (0, 0)).1 = 2 ∧ rRaw l = rMove l (rByte l (0, 0)).2) := by
  by_cases e : (rByte l (0, 0)).2.2 = 0
  · refine ⟨e, ?_⟩
    by_cases e1 : (rByte l (0, 0)).1 = 1
    · exact .inl ⟨e1, by unfold rRaw; rw [if_pos e, if_pos e1]⟩
    · by_cases e2 : (rByte l (0, 0)).1 = 2
      · exact .inr ⟨e2, by unfold rRaw; rw [if_pos e, if_neg e1, if_pos e2]⟩
      · unfold rRaw at h; rw [if_pos e, if_neg e1, if_neg e2] at h; exact absurd h ne11
  · unfold rRaw at h; rw [if_neg e] at h; exact absurd h e
theorem rRaw_ext (h : (rRaw l).2.2 = 0) : rRaw (l ++ t) = rRaw l := by
  obtain ⟨h0, h1⟩ := rRaw_is h
  have hb := rByte_ext (t := t) h0
  have a0 := (rByte_at (l := l) (s := (0, 0)) (Nat.zero_le _)).1
  rcases h1 with ⟨e, hr⟩ | ⟨e, hr⟩
  · rw [hr] at h ⊢
    unfold rRaw
    rw [hb, if_pos h0, if_pos e, rBatch_ext a0 h]
  · rw [hr] at h ⊢
    unfold rRaw
    rw [hb, if_pos h0, if_neg (by omega), if_pos e]
    unfold rMove at h ⊢
    rw [rFour_ext a0 h]
end

/-! ### numbers -/
theorem rdVar_varB {t : List UInt8} : ∀ (f m k v : Nat), m ≤ f → k ≤ 9 → (0 < k → 0 < m) → m * 2 ^ (7 * k) < 18446744073709551616 → rdVar (varB m ++ t) k v = .ok (v + m * 2 ^ (7 * k)) (k + (varB m).length) := by
  intro f
  induction f with
  | zero =>
    intro m k v hf hk h0 hm
    obtain rfl : m = 0 := by omega
    obtain rfl : k = 0 := by omega
    rw [varB_small (by decide)]
    rfl
  | succ f ih =>
    intro m k v hf hk h0 hm
    by_cases hs : m < 128
    · rw [varB_small hs, List.singleton_append, rdVar]
      have e : (UInt8.ofNat m).toNat = m := by rw [UInt8.toNat_ofNat']; exact Nat.mod_eq_of_lt (by omega)
      have hb : rdBad k (UInt8.ofNat m) = false := by
        unfold rdBad
        rw [e]
        by_cases h9 : k = 9
        · subst h9
          have : (2 : Nat) ^ (7 * 9) = 9223372036854775808 := by decide
          rw [this] at hm
          rw [decide_eq_false (show ¬ m > 1 by omega), decide_eq_false (show ¬ m = 0 by have := h0 (by decide); omega)]; simp
        · rw [decide_eq_false h9, Bool.false_and, Bool.false_or]
          by_cases hk0 : k > 0
          · rw [decide_eq_false (show ¬ m = 0 by have := h0 hk0; omega), Bool.and_false]
          · rw [decide_eq_false hk0, Bool.false_and]
      rw [if_neg (by rw [hb]; decide), e, if_neg (by omega), Nat.mod_eq_of_lt hs]
      rfl
    · rw [varB_big hs, List.cons_append, rdVar]
      have e : (UInt8.ofNat (m % 128 + 128)).toNat = m % 128 + 128 := by rw [UInt8.toNat_ofNat']; exact Nat.mod_eq_of_lt (by omega)
      have hk9 : k < 9 := by
        rcases Nat.lt_or_eq_of_le hk with h | rfl
        · exact h
        · have : (2 : Nat) ^ (7 * 9) = 9223372036854775808 := by decide
          rw [this] at hm; omega
      have hb : rdBad k (UInt8.ofNat (m % 128 + 128)) = false := by
        unfold rdBad
        rw [e, decide_eq_false (show ¬ k = 9 by omega), decide_eq_false (show ¬ m % 128 + 128 = 0 by omega)]; simp
      have hp : 2 ^ (7 * (k + 1)) = 128 * 2 ^ (7 * k) := by rw [show 7 * (k + 1) = 7 * k + 7 by omega, Nat.pow_add, Nat.mul_comm]
      have hd : m / 128 * (128 * 2 ^ (7 * k)) + m % 128 * 2 ^ (7 * k) = m * 2 ^ (7 * k) := by
        rw [← Nat.mul_assoc, ← Nat.add_mul, show m / 128 * 128 + m % 128 = m by omega]
      rw [if_neg (by rw [hb]; decide), e, if_pos (by omega), ih (m / 128) (k + 1) _ (by omega) (by omega) (fun _ => by omega) (by rw [hp]; omega)]
      rw [hp, show (m % 128 + 128) % 128 = m % 128 by omega, List.length_cons]
      congr 1
      · omega
      · omega
theorem varB_rdVar : ∀ (l : List UInt8) (k v w n : Nat), rdVar l k v = .ok w n → ∃ m r, l = varB m ++ r ∧ w = v + m * 2 ^ (7 * k) ∧ n = k + (varB m).length ∧ (0 < k → 0 < m)
  | [], k, v, w, n, h => by simp [rdVar] at h
  | c :: b, k, v, w, n, h => by
    rw [rdVar] at h
    split at h
    · cases h
    · rename_i hb
      have hb : rdBad k c = false := by simpa using hb
      have hc256 := c.toNat_lt
      split at h
      · rename_i hc
        obtain ⟨m, r, hb', hw, hn, hm⟩ := varB_rdVar b _ _ w n h
        have hm := hm (by omega)
        have hp : 2 ^ (7 * (k + 1)) = 128 * 2 ^ (7 * k) := by rw [show 7 * (k + 1) = 7 * k + 7 by omega, Nat.pow_add, Nat.mul_comm]
        have hv : varB (c.toNat % 128 + 128 * m) = c :: varB m := by
          rw [varB_big (by omega), show (c.toNat % 128 + 128 * m) % 128 + 128 = c.toNat by omega, show (c.toNat % 128 + 128 * m) / 128 = m by omega, UInt8.ofNat_toNat]
        refine ⟨c.toNat % 128 + 128 * m, r, ?_, ?_, ?_, fun _ => by omega⟩
        · rw [hv, hb']; rfl
        · rw [hw, hp, Nat.add_mul, ← Nat.add_assoc, ← Nat.mul_assoc, Nat.mul_comm m 128]
        · rw [hv, List.length_cons, hn]; omega
      · rename_i hc
        cases h
        refine ⟨c.toNat, b, ?_, ?_, ?_, fun hk => ?_⟩
        · rw [varB_small (by omega), UInt8.ofNat_toNat]; rfl
        · rw [Nat.mod_eq_of_lt (by omega)]
        · rw [varB_small (by omega)]; rfl
        · unfold rdBad at hb
          simp only [Bool.or_eq_false_iff, Bool.and_eq_false_iff, decide_eq_false_iff_not] at hb
          omega

/-! ### what is written is read -/
theorem drop_app {l x r : List UInt8} {a : Nat} (h : l.drop a = x ++ r) : l.drop (a + x.length) = r := by
  rw [← List.drop_drop, h, List.drop_left]
section
variable {l r : List UInt8} {a : Nat}
theorem rNum_w {v : Nat} (h : l.drop a = varB v ++ r) (hv : v ≤ 18446744073709551615) : rNum l (a, 0) = (v, a + (varB v).length, 0) := by
  have := rdVar_varB (t := r) v v 0 0 (Nat.le_refl _) (by decide) (fun h => absurd h (by decide)) (by omega)
  rw [← h] at this
  rw [rNum_ok this]
  simp
theorem rMost_w {m v : Nat} (h : l.drop a = varB v ++ r) (hv : v ≤ m) (hm : m ≤ 18446744073709551615) : rMost m l (a, 0) = (v, a + (varB v).length, 0) := by
  have e := rNum_w h (by omega)
  rw [rMost_ok (by rw [e]; show ¬ v > m; omega), e]
theorem rByte_w {c : UInt8} (h : l.drop a = c :: r) : rByte l (a, 0) = (c.toNat, a + 1, 0) := by
  refine rByte_ok ?_
  have := congrArg (fun l => l[0]?) h
  simpa using this
theorem rText_w {m : Nat} {x : List UInt8} (h : l.drop a = varB x.length ++ x ++ r) (hx : x.length ≤ m) (hm : m ≤ 1000) : rText m l (a, 0) = (x, a + (varB x.length ++ x).length, 0) := by
  rw [List.append_assoc] at h
  have := rdVar_varB (t := x ++ r) x.length x.length 0 0 (Nat.le_refl _) (by decide) (fun h => absurd h (by decide)) (by omega)
  rw [← h] at this
  have hl := congrArg List.length h
  simp only [List.length_drop, List.length_append] at hl
  have hp := varB_pos x.length
  rw [rText_mk this (by simp; omega) (by simp; omega)]
  simp only [Nat.mul_zero, Nat.pow_zero, Nat.mul_one, Nat.zero_add, List.length_append]
  rw [drop_app h, List.take_left, Nat.add_assoc]
theorem rRef_w {x y z : Nat} (h : l.drop a = [x, y, z].flatMap varB ++ r) (hx : x ≤ 18446744073709551615) (hy : y ≤ 65536) (hz : z ≤ 65536) : rRef l (a, 0) = ((x, y, z), a + ([x, y, z].flatMap varB).length, 0) := by
  simp only [List.flatMap_cons, List.flatMap_nil, List.append_nil, List.append_assoc] at h ⊢
  have e1 := rNum_w h hx
  have h1 := drop_app h
  have e2 := rMost_w (m := 4611686018427387904) h1 (by omega) (by omega)
  have h2 := drop_app h1
  have e3 := rMost_w (m := 4611686018427387904) h2 (by omega) (by omega)
  unfold rRef
  rw [e1, e2, e3]
  simp only [List.length_append, Nat.add_assoc]
end
end Go.Dn.W

set_option linter.unusedVariables false
namespace Go.Dn.W
open Go Go.Dn Go.Proofs

theorem key_mk (k : ByteArray) : (⟨k.toList.toArray⟩ : ByteArray) = k := by
  cases k with
  | mk d => rw [toList_data]
section
variable {l r : List UInt8} {a : Nat} {s : Nat × Nat} {m : Nat}
theorem rChange_w {c : Cg} (h : l.drop a = chB (toChg c) ++ r) (hk : c.key.size ≤ 64) (ht : tailOk c = true) (hs : c.ser ≤ 18446744073709551615) : rChange l (a, 0) = (c, (a + (chB (toChg c)).length, 0)) := by
  obtain ⟨key, x, y, z, d⟩ := c
  have hkl : key.toList.length = key.size := length_toList _
  have hb : chB (toChg ⟨key, x, y, z, d⟩) = (varB key.toList.length ++ key.toList) ++ if d then [1] else [0] ++ [x.toNat, y.toNat, z.toNat].flatMap varB := by rw [hkl]; rfl
  rw [hb] at h ⊢
  rw [List.append_assoc] at h
  have hk : key.size ≤ 64 := hk
  have e1 := rText_w (m := 64) h (by omega) (by decide)
  have h1 := drop_app h
  cases d with
  | true =>
    have : x = 0 ∧ y = 0 ∧ z = 0 := by simpa [tailOk] using ht
    obtain ⟨rfl, rfl, rfl⟩ := this
    have h1 : l.drop (a + (varB key.toList.length ++ key.toList).length) = 1 :: r := h1
    have e2 := rByte_w h1
    rw [rChange_1 (by rw [e1]; show (rByte l (_, 0)).1 = 1; rw [e2]; rfl), e1]
    show ((⟨⟨key.toList.toArray⟩, 0, 0, 0, true⟩ : Cg), (rByte l (_, 0)).2) = _
    rw [e2, key_mk]
    refine Prod.ext rfl (Prod.ext ?_ rfl)
    show a + (varB key.toList.length ++ key.toList).length + 1 = a + ((varB key.toList.length ++ key.toList) ++ [1]).length
    rw [@List.length_append _ (varB key.toList.length ++ key.toList) [1]]
    rfl
  | false =>
    have h2 : pRef x y z = true := ht
    simp only [pRef, Bool.and_eq_true, decide_eq_true_eq] at h2
    have hs : x ≤ 18446744073709551615 := hs
    obtain ⟨x', rfl⟩ := Int.eq_ofNat_of_zero_le (a := x) (by omega)
    obtain ⟨y', rfl⟩ := Int.eq_ofNat_of_zero_le (a := y) (by omega)
    obtain ⟨z', rfl⟩ := Int.eq_ofNat_of_zero_le (a := z) (by omega)
    have h1 : l.drop (a + (varB key.toList.length ++ key.toList).length) = 0 :: ([x', y', z'].flatMap varB ++ r) := h1
    have e2 := rByte_w h1
    have h3 : l.drop (a + (varB key.toList.length ++ key.toList).length + 1) = [x', y', z'].flatMap varB ++ r := by rw [← List.drop_drop, h1]; rfl
    have e3 := rRef_w h3 (by omega) (by omega) (by omega)
    rw [rChange_0 (by rw [e1]; show (rByte l (_, 0)).1 = 0; rw [e2]; rfl), e1]
    show ((⟨⟨key.toList.toArray⟩, ((rRef l (rByte l (_, 0)).2).1.1 : Int), ((rRef l (rByte l (_, 0)).2).1.2.1 : Int), ((rRef l (rByte l (_, 0)).2).1.2.2 : Int), false⟩ : Cg), (rRef l (rByte l (_, 0)).2).2) = _
    rw [e2]
    dsimp only
    rw [e3, key_mk]
    refine Prod.ext rfl (Prod.ext ?_ rfl)
    show a + (varB key.toList.length ++ key.toList).length + 1 + ([x', y', z'].flatMap varB).length = a + ((varB key.toList.length ++ key.toList) ++ ([0] ++ [x', y', z'].flatMap varB)).length
    rw [@List.length_append _ (varB key.toList.length ++ key.toList) ([0] ++ _), @List.length_append _ [0] _]
    show _ = a + (_ + (1 + _))
    omega
end
theorem rChanges_w {l : List UInt8} : ∀ (cs : List Cg) (a : Nat) (r : List UInt8), l.drop a = (cs.map toChg).flatMap chB ++ r → (∀ c ∈ cs, c.key.size ≤ 64 ∧ tailOk c = true ∧ c.ser ≤ 18446744073709551615) →
    rChanges l cs.length (a, 0) = (cs, (a + ((cs.map toChg).flatMap chB).length, 0))
  | [], a, r, _, _ => by simp [rChanges]
  | c :: cs, a, r, h, ok => by
    rw [List.map_cons, List.flatMap_cons, List.append_assoc] at h
    obtain ⟨k1, k2, k3⟩ := ok c (List.mem_cons_self ..)
    have e := rChange_w h k1 k2 k3
    have h1 := drop_app h
    have ih := rChanges_w cs _ r h1 fun c hc => ok c (List.mem_cons_of_mem _ hc)
    rw [List.length_cons, rChanges_go rfl, e]
    dsimp only
    rw [ih, List.map_cons, List.flatMap_cons, List.length_append, Nat.add_assoc]
theorem rRaw_w {r : Rc} {cs : List Cg} (ok : RecOk r cs) (hs : r.seq ≤ 18446744073709551615) (hm : r.ms ≤ 18446744073709551615) (ht : ∀ c ∈ cs, c.ser ≤ 18446744073709551615) : rRaw (recBytes r cs) = ((r, cs), ((recBytes r cs).length, 0)) := by
  by_cases hk : r.kind = 2
  · obtain ⟨ms, mf, mt, mn, rfl, rfl, h3, h4⟩ := ok.move hk hm
    have e : recBytes ⟨2, 0, ms, mf, mt, mn⟩ [] = 2 :: (varB ms ++ (varB mf ++ (varB mt ++ (varB mn ++ [])))) := by
      unfold recBytes
      rw [if_pos rfl]
      simp
    simp only [pMove, Bool.and_eq_true, decide_eq_true_eq] at h3
    rw [e]
    generalize hL : 2 :: (varB ms ++ (varB mf ++ (varB mt ++ (varB mn ++ [])))) = L
    have d0 : L.drop 0 = 2 :: (varB ms ++ (varB mf ++ (varB mt ++ (varB mn ++ [])))) := hL.symm
    have e0 := rByte_w d0
    have d1 : L.drop 1 = varB ms ++ (varB mf ++ (varB mt ++ (varB mn ++ []))) := by rw [← hL]; rfl
    have e1 := rNum_w d1 h4
    have d2 := drop_app d1
    have e2 := rMost_w (m := 4611686018427387904) d2 (by omega) (by omega)
    have d3 := drop_app d2
    have e3 := rMost_w (m := 4611686018427387904) d3 (by omega) (by omega)
    have d4 := drop_app d3
    have e4 := rMost_w (m := 4611686018427387904) d4 (by omega) (by omega)
    have hlen : L.length = 1 + (varB ms).length + (varB mf).length + (varB mt).length + (varB mn).length := by
      rw [← hL]
      simp only [List.length_cons, List.length_append, List.length_nil]
      omega
    unfold rRaw
    rw [e0]
    dsimp only
    rw [if_pos rfl, if_neg (show ¬ UInt8.toNat 2 = 1 by decide), if_pos (show UInt8.toNat 2 = 2 from rfl)]
    unfold rMove rFour
    dsimp only
    rw [e1]
    dsimp only
    rw [e2]
    dsimp only
    rw [e3]
    dsimp only
    rw [e4, hlen]
  · obtain ⟨seq, rfl, h2, h3, h4⟩ := ok.batch hk hs
    have e : recBytes ⟨1, seq, 0, 0, 0, 0⟩ cs = 1 :: (varB seq ++ (varB cs.length ++ ((cs.map toChg).flatMap chB ++ []))) := by
      unfold recBytes
      rw [if_neg (by show ¬ ((1 : Int) = 2); decide)]
      unfold recB
      simp
    rw [e]
    generalize hL : 1 :: (varB seq ++ (varB cs.length ++ ((cs.map toChg).flatMap chB ++ []))) = L
    have d0 : L.drop 0 = 1 :: (varB seq ++ (varB cs.length ++ ((cs.map toChg).flatMap chB ++ []))) := hL.symm
    have e0 := rByte_w d0
    have d1 : L.drop 1 = varB seq ++ (varB cs.length ++ ((cs.map toChg).flatMap chB ++ [])) := by rw [← hL]; rfl
    have e1 := rNum_w d1 h3
    have d2 := drop_app d1
    have hn := h4.2.1
    have e2 := rMost_w (m := 32) d2 (by omega) (by omega)
    have d3 := drop_app d2
    have e3 := rChanges_w cs _ [] d3 fun c hc => ⟨pMay_size (h4.get hc).1, (h4.get hc).2, ht c hc⟩
    have hlen : L.length = 1 + (varB seq).length + (varB cs.length).length + ((cs.map toChg).flatMap chB).length := by
      rw [← hL]
      simp only [List.length_cons, List.length_append, List.length_nil]
      omega
    unfold rRaw
    rw [e0]
    dsimp only
    rw [if_pos rfl, if_pos (show UInt8.toNat 1 = 1 from rfl)]
    unfold rBatch
    rw [e1]
    dsimp only
    rw [e2]
    dsimp only
    rw [e3, hlen]

/-! ### what is read is what would be written -/
section
variable {l : List UInt8} {s : Nat × Nat} {m : Nat}
theorem rNum_r (h : (rNum l s).2.2 = 0) : l.drop s.1 = varB (rNum l s).1 ++ l.drop (rNum l s).2.1 := by
  obtain ⟨n, h0, hd, e⟩ := rNum_is h
  obtain ⟨k, r, h1, h2, h3, _⟩ := varB_rdVar _ _ _ _ _ hd
  have hv : (rNum l s).1 = k := by rw [h2]; simp
  have e' : (rNum l s).2.1 = s.1 + n := by rw [e]
  rw [hv, e', h3, Nat.zero_add, drop_app h1]
  exact h1
theorem rMost_r (h : (rMost m l s).2.2 = 0) : l.drop s.1 = varB (rMost m l s).1 ++ l.drop (rMost m l s).2.1 := by
  obtain ⟨e, _, h0⟩ := rMost_0 h
  rw [e]; exact rNum_r h0
theorem rByte_r (h : (rByte l s).2.2 = 0) : ∃ c : UInt8, c.toNat = (rByte l s).1 ∧ l.drop s.1 = c :: l.drop (rByte l s).2.1 := by
  obtain ⟨c, h0, hc, e⟩ := rByte_is h
  refine ⟨c, by rw [e], ?_⟩
  rw [e]
  obtain ⟨hlt, rfl⟩ := List.getElem?_eq_some_iff.1 hc
  exact List.drop_eq_getElem_cons hlt
theorem rText_r (h : (rText m l s).2.2 = 0) : l.drop s.1 = (varB (rText m l s).1.length ++ (rText m l s).1) ++ l.drop (rText m l s).2.1 := by
  obtain ⟨v, n, h0, hd, h1, h2, e⟩ := rText_is h
  obtain ⟨k, r, g1, g2, g3, _⟩ := varB_rdVar _ _ _ _ _ hd
  have hv : v = k := by rw [g2]; simp
  subst hv
  rw [e]
  dsimp only
  rw [List.length_take, List.length_drop, Nat.min_eq_left h2, List.append_assoc, ← List.drop_drop (i := v) (j := s.1 + n), List.take_append_drop, g3, Nat.zero_add, drop_app g1]
  exact g1
theorem rRef_r (h : (rRef l s).2.2 = 0) : l.drop s.1 = [(rRef l s).1.1, (rRef l s).1.2.1, (rRef l s).1.2.2].flatMap varB ++ l.drop (rRef l s).2.1 := by
  obtain ⟨h0, h1, h2⟩ := rRef_0 h
  unfold rRef
  simp only [List.flatMap_cons, List.flatMap_nil, List.append_nil, List.append_assoc]
  rw [← rMost_r h2, ← rMost_r h1, ← rNum_r h0]
theorem byte_one {c : UInt8} (h : c.toNat = 1) : c = 1 := by rw [← UInt8.ofNat_toNat (x := c), h]; rfl
theorem byte_zero {c : UInt8} (h : c.toNat = 0) : c = 0 := by rw [← UInt8.ofNat_toNat (x := c), h]; rfl
theorem byte_two {c : UInt8} (h : c.toNat = 2) : c = 2 := by rw [← UInt8.ofNat_toNat (x := c), h]; rfl
theorem chB_mk {x : List UInt8} {p q r : Int} {d : Bool} : chB (toChg ⟨⟨x.toArray⟩, p, q, r, d⟩) = (varB x.length ++ x) ++ if d then [1] else [0] ++ [p.toNat, q.toNat, r.toNat].flatMap varB := by
  have e1 : (⟨x.toArray⟩ : ByteArray).size = x.length := List.size_toArray ..
  have e2 : (⟨x.toArray⟩ : ByteArray).toList = x := by rw [ByteArray.toList_mk]
  unfold chB toChg
  dsimp only
  rw [e1, e2]
theorem rChange_r (h : (rChange l s).2.2 = 0) : l.drop s.1 = chB (toChg (rChange l s).1) ++ l.drop (rChange l s).2.1 := by
  obtain ⟨h1, h2, h3⟩ := rChange_is h
  have t1 := rText_r h1
  obtain ⟨c, hc, t2⟩ := rByte_r h2
  rw [t2] at t1
  rcases h3 with h3 | ⟨h3, h4⟩
  · rw [rChange_1 h3, chB_mk]
    obtain rfl := byte_one (hc.trans h3)
    rw [t1]
    simp
  · rw [rChange_0 h3, chB_mk]
    obtain rfl := byte_zero (hc.trans h3)
    rw [t1, rRef_r h4]
    simp
end
theorem rChanges_r {l : List UInt8} : ∀ {n : Nat} {s : Nat × Nat}, (rChanges l n s).2.2 = 0 → (rChanges l n s).1.length = n ∧ l.drop s.1 = ((rChanges l n s).1.map toChg).flatMap chB ++ l.drop (rChanges l n s).2.1
  | 0, s, h => ⟨rfl, rfl⟩
  | n + 1, s, h => by
    have h0 := rChanges_0 h
    rw [rChanges_go h0] at h ⊢
    have hc : (rChange l s).2.2 = 0 := rChanges_0 h
    obtain ⟨i1, i2⟩ := rChanges_r h
    refine ⟨by rw [List.length_cons, i1], ?_⟩
    rw [rChange_r hc, i2]
    simp
theorem rRaw_r {l : List UInt8} (h : (rRaw l).2.2 = 0) (ha : l.length ≤ (rRaw l).2.1) : recBytes (rRaw l).1.1 (rRaw l).1.2 = l := by
  obtain ⟨h0, h1⟩ := rRaw_is h
  obtain ⟨c, hc, t0⟩ := rByte_r h0
  have t0 : l = c :: l.drop (rByte l (0, 0)).2.1 := t0
  rcases h1 with ⟨e, hr⟩ | ⟨e, hr⟩
  · obtain rfl := byte_one (hc.trans e)
    rw [hr] at h ha ⊢
    generalize (rByte l (0, 0)).2 = s at *
    obtain ⟨b0, b1⟩ := rBatch_0 h
    have b2 : (rChanges l (rMost 32 l (rNum l s).2).1 (rMost 32 l (rNum l s).2).2).2.2 = 0 := h
    obtain ⟨i1, i2⟩ := rChanges_r b2
    have ha : l.length ≤ (rChanges l (rMost 32 l (rNum l s).2).1 (rMost 32 l (rNum l s).2).2).2.1 := ha
    rw [List.drop_eq_nil_of_le ha, List.append_nil] at i2
    rw [rNum_r b0, rMost_r b1, i2] at t0
    unfold recBytes
    rw [if_neg (by show ¬ ((1 : Int) = 2); decide)]
    unfold recB rBatch
    dsimp only
    rw [List.length_map, i1]
    conv => rhs; rw [t0]
    simp
  · obtain rfl := byte_two (hc.trans e)
    rw [hr] at h ha ⊢
    generalize (rByte l (0, 0)).2 = s at *
    have h : (rFour l s).2.2 = 0 := h
    obtain ⟨b0, b1, b2, b3⟩ := rFour_0 h
    have ha : l.length ≤ (rFour l s).2.1 := ha
    unfold rFour at ha
    dsimp only at ha
    rw [rNum_r b0, rMost_r b1, rMost_r b2, rMost_r b3, List.drop_eq_nil_of_le ha] at t0
    unfold recBytes rMove
    rw [if_pos (by rfl)]
    unfold rFour
    dsimp only
    conv => rhs; rw [t0]
    simp
end Go.Dn.W

set_option linter.unusedVariables false
namespace Go.Dn.W
open Go Go.Dn Go.Proofs

section
variable {h : Mem}
theorem ChsAt.chg {s : Sl} {l : List Cg} (a : ChsAt h s l) (ok : ChOk l) (ht : ∀ c ∈ l, c.ser ≤ 18446744073709551615) {H : Mem} (x : Ext h.size h H) {i : Nat} {c : Chg} (hc : (l.map toChg)[i]? = some c) : ∃ a, s.a = some a ∧ Cells H (a.add (i * 5)) (chcells c) := by
  rw [List.getElem?_map] at hc
  cases hl : l[i]? with
  | none => rw [hl] at hc; cases hc
  | some d =>
    rw [hl] at hc
    cases hc
    obtain ⟨h1, h2⟩ := ok.get (List.mem_of_getElem? hl)
    obtain ⟨ad, ha, hcc⟩ := a.at_ i d hl
    refine ⟨ad, ha, ?_⟩
    rw [(toChg_ok h1 h2 (ht d (List.mem_of_getElem? hl))).2]
    exact hcc.ext x
theorem ct_Write_batch_at {seq : Nat} {t : Sl} {L : List Cg} {Q : Sl → Int → Mem → Prop} (a : ChsAt h t L) (ok : ChOk L) (ht : ∀ c ∈ L, c.ser ≤ 18446744073709551615) (hq1 : 1 ≤ seq) (hq : seq ≤ 18446744073709551615)
    (q : ∀ s' h', Ext h.size h h' → OwnB h' h.size ty_uint8 s' (recB seq (L.map toChg)) → Q s' 0 h') :
    CallF PG fn_batch_Write [.agg #[.int .i64 1, .int .u64 (seq : Int), sval t, .int .u64 0, .int .i64 0, .int .i64 0, .int .i64 0]] (.tup [.leaf .sl, .leaf (.int .i64)]) h Q := by
  have hL := ok.2.1
  refine call_batch_Write (r_0 := 1) (r_1 := seq) (r_2 := t) (r_3 := 0) (New.go fun g1 _ x1 z1 r1 => ?_)
  refine Ld.rec (s := t) (Cells.whole (cs := rcells 1 seq t 0 0 0 0) r1) (ct_May' (r := ⟨1, seq, 0, 0, 0, 0⟩) (a.ext x1) (by omega) (fun _ g2 x2 => Br.f rfl ?_) fun bad => absurd (.inl ⟨rfl, by show (seq : Int) ≥ 1; omega, ok, rfl, rfl, rfl, rfl⟩) bad)
  have r2 := (x2.block h.size (by omega)).trans r1
  refine Ld.i (n := 1) (row_cell r2 rfl) (New.go fun g3 _ x3 z3 r3 => New.go fun g4 _ x4 z4 r4 => ?_)
  have z2 := x2.size
  have x24 := x3.after x4
  have r4' := (x24.block h.size (by omega)).trans r2
  refine Ld.i (n := 1) (row_cell r4' rfl) (Ld.rec (s := t) (Cells.whole (cs := rcells 1 seq t 0 0 0 0) r4') (ct_writers fun g5 x5 => ?_))
  have r5 := (x5.block h.size (by omega)).trans r4'
  refine ⟨Ld.rec (s := t) (Cells.whole (cs := rcells 1 seq t 0 0 0 0) r5) rfl, Ld.i (n := 1) (row_cell r5 rfl) rfl, pick1 (callV_fn ?_)⟩
  have r35 : g5[g2.size]? = some (.cells #[bcell 1] ty_uint8 (0, 0)) := ((x4.after x5).block g2.size (by omega)).trans r3
  have z5 := x5.size
  have p5 : PenAt g5 g3.size ⟨some ⟨g2.size, 0, none⟩, 1, 1⟩ (.int .i64 0) (.int .i64 0) := (x5.block g3.size (by omega)).trans r4
  have o5 : OwnB g5 h.size ty_uint8 ⟨some ⟨g2.size, 0, none⟩, 1, 1⟩ [1] := ⟨rfl, .inr ⟨g2.size, 1, _, rfl, by omega, r35, Nat.le_refl _, by decide, rfl, rfl⟩⟩
  have xx : Ext h.size h g5 := x1.trans ((x2.after (x24.after x5)).less (by omega))
  refine ct_pen_batch_at (by omega) p5 o5 (by rw [List.length_map]; exact a.len) (fun H xH _ i c hc => a.chg ok ht (xx.trans xH) hc) (fun c hc => ?_) (by rw [List.length_map]; exact hL) hq (by simp) fun s' g6 p6 o6 x6 k6 => ?_
  · obtain ⟨d, hd, rfl⟩ := List.mem_map.1 hc
    obtain ⟨a1, a2⟩ := ok.get hd
    exact (toChg_ok a1 a2 (ht d hd)).1
  · exact Ld.bytes (row_cell p6 rfl) (q s' g6 (xx.trans x6) o6)
theorem ct_Write_at {s : Sl} {r : Rc} {l : List Cg} {Q : Sl → Int → Mem → Prop} (a : ChsAt h s l) (hl : l.length ≤ 140737488355328) (hs : r.seq ≤ 18446744073709551615) (hm : r.ms ≤ 18446744073709551615) (ht : ∀ c ∈ l, c.ser ≤ 18446744073709551615)
    (qy : RecOk r l → ∀ s' h', Ext h.size h h' → OwnB h' h.size ty_uint8 s' (recBytes r l) → Q s' 0 h') (qn : ¬ RecOk r l → ∀ h', Ext h.size h h' → Q ⟨none, 0, 0⟩ 11 h') :
    CallF PG fn_batch_Write [.agg #[.int .i64 r.kind, .int .u64 r.seq, sval s, .int .u64 r.ms, .int .i64 r.mf, .int .i64 r.mt, .int .i64 r.mn]] (.tup [.leaf .sl, .leaf (.int .i64)]) h Q := by
  by_cases ok : RecOk r l
  · have qy := qy ok
    by_cases hk : r.kind = 2
    · obtain ⟨ms, mf, mt, mn, rfl, rfl, h3, h4⟩ := ok.move hk hm
      exact ct_Write_move' a.len h3 h4 qy
    · obtain ⟨seq, rfl, h2, h3, h4⟩ := ok.batch hk hs
      exact ct_Write_batch_at a h4 ht h2 h3 qy
  · refine call_batch_Write (New.go fun g1 _ x1 z1 r1 => ?_)
    exact Ld.rec (s := s) (Cells.whole (cs := rcs r s) r1) (ct_May' (a.ext x1) hl (fun ok' => absurd ok' ok) fun _ g2 x2 => Br.t rfl (qn ok _ (x1.after x2)))
theorem recBytes_length {r : Rc} {l : List Cg} (ok : RecOk r l) (hs : r.seq ≤ 18446744073709551615) (hm : r.ms ≤ 18446744073709551615) (ht : ∀ c ∈ l, c.ser ≤ 18446744073709551615) : 0 < (recBytes r l).length ∧ (recBytes r l).length ≤ 5000 := by
  by_cases hk : r.kind = 2
  · obtain ⟨ms, mf, mt, mn, rfl, rfl, h3, h4⟩ := ok.move hk hm
    simp only [pMove, Bool.and_eq_true, decide_eq_true_eq] at h3
    have a1 := varB_le h4
    have a2 := varB_le (n := mf) (by omega)
    have a3 := varB_le (n := mt) (by omega)
    have a4 := varB_le (n := mn) (by omega)
    have e : recBytes ⟨2, 0, ms, mf, mt, mn⟩ [] = 2 :: (varB ms ++ (varB mf ++ (varB mt ++ (varB mn ++ [])))) := by
      unfold recBytes
      rw [if_pos rfl]
      simp
    rw [e]
    simp only [List.length_cons, List.length_append, List.length_nil]
    omega
  · obtain ⟨seq, rfl, h2, h3, h4⟩ := ok.batch hk hs
    have hL := h4.2.1
    have a1 := varB_le h3
    have a2 := varB_le (n := l.length) (by omega)
    have a3 := chB_sum (l := l.map toChg) fun c hc => by
      obtain ⟨d, hd, rfl⟩ := List.mem_map.1 hc
      obtain ⟨a1, a2⟩ := h4.get hd
      exact (toChg_ok a1 a2 (ht d hd)).1
    rw [List.length_map] at a3
    have e : recBytes ⟨1, seq, 0, 0, 0, 0⟩ l = 1 :: (varB seq ++ (varB l.length ++ ((l.map toChg).flatMap chB ++ []))) := by
      unfold recBytes
      rw [if_neg (by show ¬ ((1 : Int) = 2); decide)]
      unfold recB
      simp
    rw [e]
    simp only [List.length_cons, List.length_append, List.length_nil]
    omega
theorem rChanges_at {l : List UInt8} : ∀ {n : Nat} {s : Nat × Nat}, s.1 ≤ l.length → (rChanges l n s).2.1 ≤ l.length
  | 0, s, h => h
  | n + 1, s, h => by
    rw [rChanges]
    split
    · exact rChanges_at (n := n) (rChange_at h)
    · exact h
theorem rRaw_at {l : List UInt8} : (rRaw l).2.1 ≤ l.length := by
  have h1 := (rByte_at (l := l) (s := (0, 0)) (Nat.zero_le _)).1
  unfold rRaw
  split
  · split
    · exact rChanges_at (rMost_at (m := 32) (rNum_at h1).1).1
    · split
      · unfold rMove rFour
        exact (rMost_at (m := 4611686018427387904) (rMost_at (m := 4611686018427387904) (rMost_at (m := 4611686018427387904) (rNum_at h1).1).1).1).1
      · exact h1
  · exact h1
theorem rErr_ne (l : List UInt8) : rErr l ≠ 0 := by
  unfold rErr
  split
  · decide
  · assumption
theorem bb_tail {b : Sl} {l : List UInt8} {Q : Bool → Mem → Prop} (hb : BytesSl h b l) (hl : l.length ≤ 140737488355328) (q : ∀ h', Ext h.size h h' → Q true h') :
    CallF PG fn_batch_Read [Value.slice b.a b.len b.cap] (Kd.tup [Cmp.agg [Leaf.int IntKind.i64, Leaf.int IntKind.u64, Leaf.sl, Leaf.int IntKind.u64, Leaf.int IntKind.i64, Leaf.int IntKind.i64, Leaf.int IntKind.i64], Cmp.leaf (Leaf.int IntKind.i64)]) h
      fun (n110 n111 : Int) (s112 : Sl) (n113 n114 n115 n116 n117 : Int) (h118 : Mem) =>
      New (Obj.cells #[Value.int IntKind.i64 0, Value.int IntKind.u64 0, Value.slice none 0 0, Value.int IntKind.u64 0, Value.int IntKind.i64 0, Value.int IntKind.i64 0, Value.int IntKind.i64 0] 38) h118 fun (k119 : Nat) (h120 : Mem) =>
        St PG ty_api_Record (Addr.mk k119 0 none) (Value.agg #[Value.int IntKind.i64 n110, Value.int IntKind.u64 n111, Value.slice s112.a s112.len s112.cap, Value.int IntKind.u64 n113, Value.int IntKind.i64 n114, Value.int IntKind.i64 n115, Value.int IntKind.i64 n116]) h120 fun (h121 : Mem) =>
          Br (n117 != 0) (Q true h121)
            (Ld PG ty_api_Record (Addr.mk k119 0 none) recKd h121 fun (n122 n123 : Int) (s124 : Sl) (n125 n126 n127 n128 : Int) =>
              CallF PG fn_batch_Write [Value.agg #[Value.int IntKind.i64 n122, Value.int IntKind.u64 n123, Value.slice s124.a s124.len s124.cap, Value.int IntKind.u64 n125, Value.int IntKind.i64 n126, Value.int IntKind.i64 n127, Value.int IntKind.i64 n128]]
                (Kd.tup [Cmp.leaf Leaf.sl, Cmp.leaf (Leaf.int IntKind.i64)]) h121 fun (s129 : Sl) (n130 : Int) (h131 : Mem) =>
                Br (n130 == 0) (CallF PG fn_dunnagehelp_Bytes [Value.slice s129.a s129.len s129.cap, Value.slice b.a b.len b.cap] (Kd.one (Cmp.leaf Leaf.bool)) h131 fun (b132 : Bool) (h133 : Mem) => Q b132 h133) (Q false h131)) := by
  have fit := rRaw_fit (l := l)
  refine ct_batch_Read hb hl (fun ok s112 h118 x118 o118 => New.go fun h120 _ x120 z120 r120 => ?_) fun bad h118 x118 => New.go fun h120 _ x120 z120 r120 => ?_
  · refine St.rec (r := (rRaw l).1.1) r120 rfl fun h121 u121 r121 => Br.f rfl (r121.ld ?_)
    have x1 : Ext h118.size h118 h121 := x120.trans (u121.ext (Nat.le_refl _))
    refine ct_Write_at (r := (rRaw l).1.1) (o118.chs.ext x1) (by omega) fit.2.2.1 fit.2.2.2 (fun c hc => (fit.2.1 c hc).2) (fun _ s129 h131 x131 o131 => Br.t rfl ?_) fun bad => absurd ok.2.2 bad
    have xx : Ext h.size h h131 := (x118.after x1).after x131
    refine ct_Bytes (OwnB.bytes o131) (hb.ext xx) ?_
    rw [rRaw_r ok.1 ok.2.1, decide_eq_true rfl]
    exact q _ xx
  · refine St.rec (r := ZR) (t := NS) r120 rfl fun h121 u121 r121 => Br.t ?_ (q _ (x118.after (x120.trans (u121.ext (Nat.le_refl _)))))
    have := rErr_ne l
    simp only [bne_iff_ne, ne_eq]; omega
theorem u8_byte (c : Int) : ∃ u : UInt8, Value.int IntKind.u8 (IntKind.u8.wrap c) = bcell u := by
  have e : IntKind.u8.wrap c = c % 256 := by simp [IntKind.wrap, IntKind.bits, IntKind.signed]
  refine ⟨UInt8.ofNat (c % 256).toNat, ?_⟩
  unfold bcell
  rw [e, UInt8.toNat_ofNat']
  congr 1
  omega
theorem cut_at {c : Int} {n : Nat} (hn : 0 < n) (hm : n ≤ 140737488355328) : ∃ m : Nat, m < n ∧ IntKind.i64.wrap ((IntKind.u64.wrap c).tmod (IntKind.u64.wrap (n : Int))) = (m : Int) := by
  have e : IntKind.u64.wrap c = c % 18446744073709551616 := by simp [IntKind.wrap, IntKind.bits, IntKind.signed]
  have h0 : 0 ≤ c % 18446744073709551616 := Int.emod_nonneg _ (by decide)
  obtain ⟨k, hk⟩ := Int.eq_ofNat_of_zero_le h0
  have hlt := Nat.mod_lt k hn
  refine ⟨k % n, hlt, ?_⟩
  rw [e, hk, u64_eq (by omega)]
  have : ((k : Int)).tmod (n : Int) = ((k % n : Nat) : Int) := by
    rw [Int.tmod_eq_emod_of_nonneg (by omega)]; rfl
  rw [this, i64_eq (by omega) (by omega)]

theorem law_BatchBack {r : Rc} {s b : Sl} {l : List UInt8} {cut : Int} {Q : Bool → Mem → Prop} (hr : RecIn h s r) (hb : BytesC h b l) (hc : -9223372036854775808 ≤ cut ∧ cut ≤ 9223372036854775807) (q : ∀ h', Ext h.size h h' → Q true h') :
    wp_dunnagelaw10_BatchBack r.kind r.seq s r.ms r.mf r.mt r.mn b cut h Q := by
  obtain ⟨L, ci, hs, hm⟩ := hr
  have hsz := ci.size
  have hbl := hb.len
  refine New.go fun h2 _ x2 z2 r2 => ?_
  have r2 : RecC h2 h.size r s := r2
  have tail : ∀ h', Ext h.size h h' → _ := fun h' x' => bb_tail (Q := Q) (hb.bytes.ext x') (by omega) fun h'' x'' => q h'' (x'.after x'')
  refine r2.ld (ct_Write_at (r := r) (ci.at_.ext x2) (by omega) hs hm ci.ser (fun ok s10 h12 x12 o12 => ?_) fun bad h12 x12 => ?_)
  · obtain ⟨hp, hx⟩ := recBytes_length ok hs hm ci.ser
    have raw := rRaw_w ok hs hm ci.ser
    generalize hX : recBytes r L = X at *
    have okX : RdOk X := by rw [RdOk, raw]; exact ⟨rfl, Nat.le_refl _, ok⟩
    have lX := OwnB.len o12
    have x02 := x2.after x12
    refine ct_awake10 fun h14 x14 => ⟨fun z h' => z = false ∧ Ext h12.size h12 h', ?_, Br.f rfl (((r2.ext x12).ext x14).ld (ct_May' ((ci.at_.ext x2).ext (x12.after x14)) (by omega) (fun _ h142 x142 => ⟨rfl, x14.after x142⟩) fun bad => absurd ok bad))⟩
    rintro _ z h18 ⟨rfl, x18⟩
    have bX : ∀ {H : Mem}, Ext h12.size h12 H → BytesSl H s10 X := fun x => (OwnB.bytes o12).ext x
    refine Br.f rfl (Br.t rfl (ct_batch_Read (bX x18) (by omega) (fun _ s21 h27 x27 o27 => New.go fun h29 _ x29 z29 r29 => ?_) fun bad => absurd okX bad))
    rw [raw] at o27 ⊢
    refine St.rec (r := r) r29 rfl fun h30 u30 r30 => ?_
    have x2730 : Ext h27.size h27 h30 := x29.trans (u30.ext (Nat.le_refl _))
    have x1230 := (x18.after x27).after x2730
    refine ⟨fun z h' => z = false ∧ Ext h12.size h12 h', ?_, Br.f rfl (r30.ld (((r2.ext x12).ext x1230).ld (ct_Record (r := r) (o27.chs.ext x2730) ((ci.at_.ext x2).ext (x12.after x1230)) (by show L.length ≤ _; omega) fun h109 x109 => ⟨rfl, x1230.after x109⟩)))⟩
    rintro _ z h34 ⟨rfl, x34⟩
    obtain ⟨n, hn, en⟩ := cut_at (c := cut) (n := s10.len) (by omega) (by omega)
    rw [en]
    refine Br.f rfl (Chk.mk ?_ (Cut.hi (by have := OwnB.cap o12; omega) ?_))
    · rw [u64_eq (by omega), decide_eq_false (by omega)]; rfl
    rw [cutSl_zero]
    have hne : s10.a = none → False := fun hn => by have := (Owns.nil0 o12 hn).1; omega
    have bp : BytesSl h34 ⟨s10.a, n, s10.cap⟩ (X.take n) := by
      have hl : (X.take n).length = n := by rw [List.length_take]; omega
      refine BytesSl.prefixB (m := s10.len) (r := X.drop n) (by rw [List.take_append_drop]; exact bX x34) hl.symm fun hn => (hne hn).elim
    have badP : ¬ RdOk (X.take n) := fun okp => by
      have e := rRaw_ext (t := X.drop n) okp.1
      rw [List.take_append_drop, raw] at e
      have h1 := okp.2.1
      have h3 := (rRaw_at (l := X.take n))
      rw [← e, List.length_take] at h3
      dsimp only at h3
      omega
    refine ct_batch_Read bp (by rw [List.length_take]; omega) (fun ok' => absurd ok' badP) fun _ h44 x44 => New.go fun h46 _ x46 z46 r46 => ?_
    refine St.rec (r := ZR) (t := NS) r46 rfl fun h47 u47 r47 => ?_
    have x1247 : Ext h12.size h12 h47 := (x34.after x44).after (x46.trans (u47.ext (Nat.le_refl _)))
    refine append_bytes (s := ⟨none, 0, 0⟩) (xs := []) (v := s10) (B := h47.size) (Nat.le_refl _) (Owns.nil h47 _ _ _) (bX x1247) (by rw [List.length_nil]; omega) fun s48 h49 o49 g49 => ?_
    rw [List.nil_append] at o49
    have x49 : Ext h47.size h47 h49 := g49.ext (Nat.le_refl _) fun a ha => by cases ha
    obtain ⟨u, hu⟩ := u8_byte cut
    refine push_byte hu x49.size o49 (by omega) fun s52 h53 o53 x53 => ?_
    have x4753 : Ext h47.size h47 h53 := x49.trans x53
    have raw2 : rRaw (X ++ [u]) = ((r, L), (X.length, 0)) := by rw [rRaw_ext (by rw [raw]), raw]
    have bad2 : ¬ RdOk (X ++ [u]) := fun ok2 => by
      have := ok2.2.1
      rw [raw2, List.length_append] at this
      dsimp only [List.length_cons, List.length_nil] at this
      omega
    have err2 : rErr (X ++ [u]) = 11 := by unfold rErr; rw [raw2]; rfl
    refine ct_batch_Read (OwnB.bytes o53) (by rw [List.length_append, List.length_cons, List.length_nil]; omega) (fun ok' => absurd ok' bad2) fun _ h62 x62 => New.go fun h64 _ x64 z64 r64 => ?_
    rw [err2]
    refine St.rec (r := ZR) (t := NS) r64 rfl fun h65 u65 r65 => ?_
    have x0 : Ext h.size h h65 := x02.after (x1247.after (x4753.after (x62.after (x64.trans (u65.ext (Nat.le_refl _))))))
    refine ⟨fun z h' => z = false ∧ h' = h65, ?_, Br.f ?_ ⟨rfl, rfl⟩⟩
    · rintro _ z h69 ⟨rfl, rfl⟩
      exact Br.f rfl (tail h69 x0)
    · have := rErr_ne (X.take n)
      simp only [beq_eq_false_iff_ne, ne_eq]; omega
  · refine ct_awake10 fun h14 x14 => ⟨fun z h' => z = false ∧ Ext h.size h h', ?_, Br.f rfl (((r2.ext x12).ext x14).ld (ct_May' ((ci.at_.ext x2).ext (x12.after x14)) (by omega) (fun ok => absurd ok bad) fun _ h142 x142 => ⟨rfl, (x2.after (x12.after x14)).after x142⟩))⟩
    rintro _ z h18 ⟨rfl, x18⟩
    exact Br.f rfl (Br.f rfl (tail h18 x18))
end
end Go.Dn.W
