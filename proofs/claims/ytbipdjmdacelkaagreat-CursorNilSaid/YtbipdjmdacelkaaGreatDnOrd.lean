/- The order of texts, byte by byte: it is a strict total order, and the text with a zero byte behind is the next one. -/
import GoSem.Op.String
namespace Go.Dn
open Go.Op

theorem bl_irrefl : ∀ a : List UInt8, bytesLess a a = false
  | [] => rfl
  | x :: a => by simp [bytesLess, bl_irrefl a]

theorem bl_cons (x y : UInt8) (a b : List UInt8) : bytesLess (x :: a) (y :: b) = (decide (x < y) || (x == y && bytesLess a b)) := by
  conv => lhs; unfold bytesLess

theorem bl_nil_right (a : List UInt8) : bytesLess a [] = false := by cases a <;> rfl
theorem bl_nil_cons (y : UInt8) (b : List UInt8) : bytesLess [] (y :: b) = true := rfl

theorem bl_cons_iff (x y : UInt8) (a b : List UInt8) : bytesLess (x :: a) (y :: b) = true ↔ x < y ∨ (x = y ∧ bytesLess a b = true) := by
  rw [bl_cons]; simp

theorem bl_trans : ∀ a b c : List UInt8, bytesLess a b = true → bytesLess b c = true → bytesLess a c = true
  | _, [], _, h, _ => by rw [bl_nil_right] at h; cases h
  | _, _ :: _, [], _, h => by rw [bl_nil_right] at h; cases h
  | [], _ :: _, _ :: _, _, _ => rfl
  | x :: a, y :: b, z :: c, h1, h2 => by
    rw [bl_cons_iff] at *
    rcases h1 with h1 | ⟨rfl, h1⟩
    · rcases h2 with h2 | ⟨rfl, _⟩
      · exact .inl (UInt8.lt_trans h1 h2)
      · exact .inl h1
    · rcases h2 with h2 | ⟨rfl, h2⟩
      · exact .inl h2
      · exact .inr ⟨rfl, bl_trans a b c h1 h2⟩

theorem bl_total : ∀ a b : List UInt8, bytesLess a b = true ∨ a = b ∨ bytesLess b a = true
  | [], [] => .inr (.inl rfl)
  | [], _ :: _ => .inl rfl
  | _ :: _, [] => .inr (.inr rfl)
  | x :: a, y :: b => by
    rw [bl_cons_iff, bl_cons_iff]
    by_cases hxy : x = y
    · subst hxy
      rcases bl_total a b with h | rfl | h
      · exact .inl (.inr ⟨rfl, h⟩)
      · exact .inr (.inl rfl)
      · exact .inr (.inr (.inr ⟨rfl, h⟩))
    · rcases UInt8.lt_or_lt_of_ne hxy with h | h
      · exact .inl (.inl h)
      · exact .inr (.inr (.inl h))

theorem bl_asymm {a b : List UInt8} (h : bytesLess a b = true) : bytesLess b a = false := by
  cases hb : bytesLess b a with
  | false => rfl
  | true => have := bl_trans _ _ _ h hb; rw [bl_irrefl] at this; cases this

theorem bl_ne {a b : List UInt8} (h : bytesLess a b = true) : a ≠ b := by
  rintro rfl; rw [bl_irrefl] at h; cases h

/-- not below, and not the same: above -/
theorem bl_of_not {a b : List UInt8} (h : bytesLess a b = false) (hne : a ≠ b) : bytesLess b a = true := by
  rcases bl_total a b with h' | h' | h'
  · rw [h] at h'; cases h'
  · exact absurd h' hne
  · exact h'

theorem bl_le_trans {a b c : List UInt8} (h1 : bytesLess b a = false) (h2 : bytesLess c b = false) : bytesLess c a = false := by
  cases h : bytesLess c a with
  | false => rfl
  | true =>
    by_cases e : a = b
    · subst e; rw [h] at h2; cases h2
    · have hab := bl_of_not (a := b) (b := a) h1 (fun h => e h.symm)
      have := bl_trans _ _ _ h hab
      rw [h2] at this; cases this

theorem bl_lt_of_lt_of_le {a b c : List UInt8} (h1 : bytesLess a b = true) (h2 : bytesLess c b = false) : bytesLess a c = true := by
  by_cases e : b = c
  · subst e; exact h1
  · exact bl_trans _ _ _ h1 (bl_of_not h2 (fun h => e h.symm))

theorem bl_lt_of_le_of_lt {a b c : List UInt8} (h1 : bytesLess b a = false) (h2 : bytesLess b c = true) : bytesLess a c = true := by
  by_cases e : a = b
  · subst e; exact h2
  · exact bl_trans _ _ _ (bl_of_not h1 (fun h => e h.symm)) h2

theorem bl_snoc : ∀ a : List UInt8, bytesLess a (a ++ [0]) = true
  | [] => rfl
  | x :: a => by rw [List.cons_append, bl_cons_iff]; exact .inr ⟨rfl, bl_snoc a⟩

/-- nothing stands between a text and the text with a zero byte behind -/
theorem bl_next : ∀ a b : List UInt8, bytesLess a b = !bytesLess b (a ++ [0])
  | [], [] => rfl
  | [], y :: b => by
    rw [bl_nil_cons, List.nil_append, bl_cons, bl_nil_right]
    simp
  | x :: a, [] => rfl
  | x :: a, y :: b => by
    rw [List.cons_append, bl_cons, bl_cons, bl_next a b]
    by_cases hxy : x = y
    · subst hxy; simp
    · have hyx : y ≠ x := fun h => hxy h.symm
      rcases UInt8.lt_or_lt_of_ne hxy with h | h
      · simp [h, hyx, UInt8.le_of_lt h]
      · simp [h, hxy, UInt8.le_of_lt h]
end Go.Dn
