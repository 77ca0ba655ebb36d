/- Numbers as bytes: word.Var and the document's. -/
import Derived.Test.YtemelcaoepaoiaaDnOpl
set_option linter.unusedVariables false
namespace Go.Dn.W
open Go Go.Dn Go.Proofs

/-- a number's bytes: seven bits a byte, the least first; all but the last have the eighth bit -/
def varB (n : Nat) : List UInt8 := if n < 128 then [UInt8.ofNat n] else UInt8.ofNat (n % 128 + 128) :: varB (n / 128)
termination_by n
decreasing_by omega
theorem varB_small {n : Nat} (h : n < 128) : varB n = [UInt8.ofNat n] := by rw [varB, if_pos h]
theorem varB_big {n : Nat} (h : ¬ n < 128) : varB n = UInt8.ofNat (n % 128 + 128) :: varB (n / 128) := by rw [varB, if_neg h]
theorem varB_length : ∀ (k n : Nat), n < 128 ^ (k + 1) → (varB n).length ≤ k + 1
  | 0, n, h => by rw [varB_small (by omega)]; exact Nat.le_refl _
  | k + 1, n, h => by
    by_cases hn : n < 128
    · rw [varB_small hn]; simp
    · rw [varB_big hn, List.length_cons]
      have := varB_length k (n / 128) (by rw [Nat.div_lt_iff_lt_mul (by decide)]; rw [Nat.pow_succ] at h; exact h)
      omega
theorem varB_le {n : Nat} (h : n ≤ 18446744073709551615) : (varB n).length ≤ 10 := varB_length 9 n (Nat.lt_of_le_of_lt h (by decide))
theorem varB_pos (n : Nat) : 0 < (varB n).length := by rw [varB]; split <;> simp

theorem or_byte : ∀ x : Nat, x < 256 → bitsOf BinOp.or IntKind.u8 (x : Int) 128 = ((x % 128 + 128 : Nat) : Int) := by
  have : ∀ x : Fin 256, bitsOf BinOp.or IntKind.u8 ((x : Nat) : Int) 128 = (((x : Nat) % 128 + 128 : Nat) : Int) := by decide +kernel
  exact fun x hx => this ⟨x, hx⟩
theorem u8_wrap (n : Nat) : IntKind.u8.wrap (n : Int) = ((n % 256 : Nat) : Int) := by simp [IntKind.wrap, IntKind.bits, IntKind.signed]
theorem big_cell (n : Nat) : Value.int IntKind.u8 (bitsOf BinOp.or IntKind.u8 (IntKind.u8.wrap (n : Int)) 128) = bcell (UInt8.ofNat (n % 128 + 128)) := by
  have e : (UInt8.ofNat (n % 128 + 128)).toNat = n % 128 + 128 := by
    rw [UInt8.toNat_ofNat']
    exact Nat.mod_eq_of_lt (by have := Nat.mod_lt n (show 0 < 128 by decide); omega)
  have e2 : n % 256 % 128 = n % 128 := by omega
  unfold bcell
  rw [u8_wrap, or_byte _ (Nat.mod_lt _ (by decide)), e, e2]
theorem small_cell {n : Nat} (h : n < 256) : Value.int IntKind.u8 (IntKind.u8.wrap (n : Int)) = bcell (UInt8.ofNat n) := by
  have e : (UInt8.ofNat n).toNat = n := by
    rw [UInt8.toNat_ofNat']
    exact Nat.mod_eq_of_lt h
  unfold bcell
  rw [u8_wrap, e, Nat.mod_eq_of_lt h]
theorem fdiv128 (n : Nat) : (n : Int).fdiv (Int.ofNat 128) = ((n / 128 : Nat) : Int) := by
  rw [Int.fdiv_eq_ediv_of_nonneg _ (by decide)]
  rfl

section
variable {h : Mem}
theorem one_byte {b : Nat} {u : UInt8} {e : TypeId} {fz : Nat × Nat} (hb : h[b]? = some (.cells #[bcell u] e fz)) : BytesSl h ⟨some ⟨b, 0, none⟩, 1, 1⟩ [u] :=
  ⟨rfl, fun i v hv => by
    match i, hv with
    | 0, hv => cases hv; rw [add_zero]; exact row_cell hb rfl
    | i + 1, hv => simp at hv, fun hn => by cases hn⟩

/-- a byte is put behind -/
theorem push_byte {B : Nat} {s : Sl} {xs : List UInt8} {x : Value} {u : UInt8} (hx : x = bcell u) (hB : B ≤ h.size) (o : OwnB h B ty_uint8 s xs) (hs : xs.length + 1 ≤ 140737488355328) {K : Sl → Mem → Prop}
    (hk : ∀ s' h', OwnB h' B ty_uint8 s' (xs ++ [u]) → Ext B h h' → K s' h') :
    New (Obj.cells #[x] ty_uint8) h fun (k7 : Nat) (h8 : Mem) =>
      PrimT PG (Builtin.append_ #[ty_sl_uint8, ty_sl_uint8] ty_sl_uint8 #[Value.slice s.a s.len s.cap, Value.slice (some (Addr.mk k7 0 none)) 1 1]) (Kd.one (Cmp.leaf Leaf.sl)) h8 K := by
  subst hx
  refine New.go fun h1 _ x1 z1 r1 => ?_
  refine append_bytes (v := ⟨some ⟨h.size, 0, none⟩, 1, 1⟩) (Nat.le_trans hB x1.size) (Owns.ext o x1) (one_byte r1) hs fun s' h' o' g => hk s' h' o' ((x1.less hB).trans ?_)
  exact Owns.grownExt (Owns.ext o x1) (Nat.le_trans hB x1.size) g

theorem ct_Var {n : Nat} {Q : Sl → Mem → Prop} (hn : n ≤ 18446744073709551615) (q : ∀ s' h', Ext h.size h h' → OwnB h' h.size ty_uint8 s' (varB n) → Q s' h') :
    CallF PG fn_word_Var [.int .u64 (n : Int)] (.one (.leaf .sl)) h Q := by
  refine call_word_Var ?_
  have hle := varB_le hn
  refine ⟨fun v s h' => ∃ (m : Nat) (d : List UInt8), v = (m : Int) ∧ d ++ varB m = varB n ∧ Ext h.size h h' ∧ OwnB h' h.size ty_uint8 s d, fun v _ _ => v.toNat, ⟨n, [], rfl, rfl, Ext.refl _ _, Owns.nil _ _ _ _⟩, ?_⟩
  rintro _ v s h1 ⟨m, d, rfl, hd, x, o⟩
  have hdl := congrArg List.length hd
  rw [List.length_append] at hdl
  have hp := varB_pos m
  refine Br.mk (fun e => ?_) fun e => ?_
  · have e : ¬ m < 128 := by simp only [ge_iff_le, decide_eq_true_eq] at e; omega
    refine push_byte (big_cell m) x.size o (by omega) fun s' h' o' x' => ?_
    rw [fdiv128]
    refine ⟨⟨m / 128, _, rfl, ?_, x.trans x', o'⟩, by simp only [Int.toNat_natCast]; omega⟩
    rw [List.append_assoc, List.singleton_append, ← varB_big e]; exact hd
  · have e : m < 128 := by simp only [ge_iff_le, decide_eq_false_iff_not] at e; omega
    refine push_byte (small_cell (by omega)) x.size o (by omega) fun s' h' o' x' => q _ _ (x.trans x') ?_
    rw [← varB_small e, hd] at o'; exact o'
theorem ct_ref_Var {n : Nat} {Q : Sl → Mem → Prop} (hn : n ≤ 18446744073709551615) (q : ∀ s' h', Ext h.size h h' → OwnB h' h.size ty_uint8 s' (varB n) → Q s' h') :
    CallF PG fn_dunnageref01_Var [.int .u64 (n : Int)] (.one (.leaf .sl)) h Q := by
  refine call_dunnageref01_Var ?_
  have hle := varB_le hn
  refine ⟨fun v s h' => ∃ (m : Nat) (d : List UInt8), v = (m : Int) ∧ d ++ varB m = varB n ∧ Ext h.size h h' ∧ OwnB h' h.size ty_uint8 s d, fun v _ _ => v.toNat, ⟨n, [], rfl, rfl, Ext.refl _ _, Owns.nil _ _ _ _⟩, ?_⟩
  rintro _ v s h1 ⟨m, d, rfl, hd, x, o⟩
  have hdl := congrArg List.length hd
  rw [List.length_append] at hdl
  have hp := varB_pos m
  refine Br.mk (fun e => ?_) fun e => ?_
  · have e : ¬ m < 128 := by simp only [ge_iff_le, decide_eq_true_eq] at e; omega
    refine push_byte (big_cell m) x.size o (by omega) fun s' h' o' x' => ?_
    rw [fdiv128]
    refine ⟨⟨m / 128, _, rfl, ?_, x.trans x', o'⟩, by simp only [Int.toNat_natCast]; omega⟩
    rw [List.append_assoc, List.singleton_append, ← varB_big e]; exact hd
  · have e : m < 128 := by simp only [ge_iff_le, decide_eq_false_iff_not] at e; omega
    refine push_byte (small_cell (by omega)) x.size o (by omega) fun s' h' o' x' => q _ _ (x.trans x') ?_
    rw [← varB_small e, hd] at o'; exact o'
end
end Go.Dn.W
