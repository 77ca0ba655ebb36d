/- Strings, branches, checks: how what is asked for is met. -/
import Derived.Test.YtbipdjmdacelkaaGreatDnFun
import Derived.Test.YtbipdjmdacelkaaGreatDnOrd
import Derived.IntWalk
namespace Go.Dn
open Go

theorem Br.mk {c : Bool} {A B : Prop} (ht : c = true → A) (hf : c = false → B) : Br c A B := by
  cases c
  · exact hf rfl
  · exact ht rfl
theorem Br.t {c : Bool} {A B : Prop} (hc : c = true) (h : A) : Br c A B := by subst hc; exact h
theorem Br.f {c : Bool} {A B : Prop} (hc : c = false) (h : B) : Br c A B := by subst hc; exact h
theorem Deref.mk {a : Option Addr} {p : Addr} {K : Addr → Prop} (ha : a = some p) (h : K p) : Deref a K := by subst ha; exact h

/-- both ways come to what a function says -/
theorem Br.ite {α : Type} {c : Bool} {x y : α} {K : α → Prop} (h : K (bif c then x else y)) : Br c (K x) (K y) := by cases c <;> exact h

theorem Fits.bool {R : Type} {T : R → Prop} {b : Bool} {K : Bool → R} (h : T (K b)) : Fits T (.one (.leaf .bool)) (.bool b) K := ⟨[.bool b], rfl, b, .bool b, h⟩

/-! ### strings as lists of bytes -/

theorem toList_data (a : ByteArray) : a.toList = a.data.toList := ByteArray.toList_eq a
theorem toList_inj {a b : ByteArray} (h : a.toList = b.toList) : a = b := by
  rw [toList_data, toList_data] at h
  cases a; cases b
  congr
  exact Array.toList_inj.1 h
theorem length_toList (a : ByteArray) : a.toList.length = a.size := by rw [toList_data, Array.length_toList]; rfl
theorem toList_append (a b : ByteArray) : (a ++ b).toList = a.toList ++ b.toList := by simp [toList_data, ByteArray.data_append]
theorem toList_empty : (ByteArray.mk #[]).toList = [] := ByteArray.toList_mk []
theorem sEq_iff {a b : ByteArray} : sEq a b = true ↔ a = b := by
  unfold sEq
  rw [beq_iff_eq]
  exact ⟨toList_inj, fun h => by rw [h]⟩
theorem sEq_false {a b : ByteArray} : sEq a b = false ↔ a ≠ b := by
  rw [← Bool.not_eq_true, sEq_iff]
theorem sEq_comm (a b : ByteArray) : sEq a b = sEq b a := by
  cases h : sEq a b with
  | true => rw [sEq_iff.1 h]; exact (sEq_iff.2 rfl).symm
  | false => exact (sEq_false.2 fun e => sEq_false.1 h e.symm).symm
theorem sEq_self (a : ByteArray) : sEq a a = true := sEq_iff.2 rfl

theorem sLt_irrefl (a : ByteArray) : sLt a a = false := bl_irrefl _
theorem sLt_trans {a b c : ByteArray} (h : sLt a b = true) (k : sLt b c = true) : sLt a c = true := bl_trans _ _ _ h k
theorem sLt_asymm {a b : ByteArray} (h : sLt a b = true) : sLt b a = false := bl_asymm h
theorem sLt_ne {a b : ByteArray} (h : sLt a b = true) : a ≠ b := by rintro rfl; rw [sLt_irrefl] at h; cases h
theorem sLt_of_not {a b : ByteArray} (h : sLt a b = false) (hne : a ≠ b) : sLt b a = true := bl_of_not h fun e => hne (toList_inj e)
theorem sLe_trans {a b c : ByteArray} (h : sLt b a = false) (k : sLt c b = false) : sLt c a = false := bl_le_trans h k
theorem sLt_of_lt_of_le {a b c : ByteArray} (h : sLt a b = true) (k : sLt c b = false) : sLt a c = true := bl_lt_of_lt_of_le h k
theorem sLt_of_le_of_lt {a b c : ByteArray} (h : sLt b a = false) (k : sLt b c = true) : sLt a c = true := bl_lt_of_le_of_lt h k
theorem sLt_or (a b : ByteArray) : (sLt a b || sEq a b) = !sLt b a := by
  cases h : sLt b a with
  | true => rw [sLt_asymm h, sEq_false.2 fun e => sLt_ne h e.symm]; rfl
  | false =>
    cases h2 : sEq a b with
    | true => simp
    | false => rw [sLt_of_not h fun e => sEq_false.1 h2 e.symm]; rfl
theorem sLt_empty (a : ByteArray) : sLt a (ByteArray.mk #[]) = false := by unfold sLt; rw [toList_empty]; exact bl_nil_right _
theorem empty_sLt {a : ByteArray} (h : a ≠ ByteArray.mk #[]) : sLt (ByteArray.mk #[]) a = true := sLt_of_not (sLt_empty a) h
theorem size_append' (a b : ByteArray) : (a ++ b).size = a.size + b.size := by simp [ByteArray.size_append]
theorem size_eq_zero {a : ByteArray} : a.size = 0 ↔ a = ByteArray.mk #[] := by
  constructor
  · intro h
    apply toList_inj
    rw [toList_empty]
    exact List.eq_nil_of_length_eq_zero (by rw [length_toList]; exact h)
  · rintro rfl; rfl

theorem get_toList (a : ByteArray) (i : Nat) : a[i]? = a.toList[i]? := by
  by_cases h : i < a.size
  · rw [ByteArray.getElem?_lt' a i h, toList_data, Array.getElem?_toList, Array.getElem?_eq_getElem (by simpa using h)]
    rfl
  · rw [ByteArray.getElem?_ge' a i h]
    exact (List.getElem?_eq_none (by rw [length_toList]; omega)).symm
theorem toList_extract (a : ByteArray) (i j : Nat) : (a.extract i j).toList = (a.toList.drop i).take (j - i) := by
  rw [toList_data, toList_data, ByteArray.data_extract, Array.toList_extract, List.extract_eq_take_drop]

theorem IdxS.mk {s : ByteArray} {i : Nat} {K : Int → Prop} (h : i < s.toList.length) (hk : K (s.toList[i].toNat : Nat)) : IdxS s i K := by
  refine ⟨s.toList[i], by omega, ?_, hk⟩
  rw [get_toList, Int.toNat_natCast]
  exact List.getElem?_eq_getElem h

theorem IdxS.at {s : ByteArray} {i : Nat} {b : UInt8} {K : Int → Prop} (hb : s.toList[i]? = some b) (hk : K (b.toNat : Nat)) : IdxS s i K :=
  ⟨b, by omega, by rw [get_toList, Int.toNat_natCast]; exact hb, hk⟩

theorem CutS.hi {s : ByteArray} {n : Nat} {K : ByteArray → Prop} (h : n ≤ s.size) (hk : K (s.extract 0 n)) : CutS s none (some (n : Int)) K :=
  ⟨0, n, ⟨rfl, h⟩, rfl, hk⟩
theorem CutS.lo {s : ByteArray} {n : Nat} {K : ByteArray → Prop} (h : n ≤ s.size) (hk : K (s.extract n s.size)) : CutS s (some (n : Int)) none K :=
  ⟨n, s.size, rfl, ⟨rfl, h⟩, hk⟩

theorem ble_of {a b : Nat} (h : a ≤ b) : Nat.ble a b = true := Nat.ble_eq_true_of_le h

theorem i64_eq {n : Int} (h0 : -9223372036854775808 ≤ n) (h1 : n ≤ 9223372036854775807) : IntKind.i64.wrap n = n := IntWalk.i64_in n ⟨h0, h1⟩
end Go.Dn
