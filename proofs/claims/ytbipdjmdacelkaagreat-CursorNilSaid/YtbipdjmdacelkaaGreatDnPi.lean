/- Arguments: texts, numbers, lists of texts. -/
import Derived.Test.YtbipdjmdacelkaaGreatDnU
set_option linter.unusedVariables false
namespace Go.Dn.W
open Go Go.Dn Go.Proofs
theorem bytesOf_str : PG.bytesOf ty_string = 16 := by kernel_rfl
theorem cellsOf_str : PG.cellsOf ty_string = 1 := by kernel_rfl
theorem bytesOf_int : PG.bytesOf ty_int = 8 := by kernel_rfl
theorem cellsOf_int : PG.cellsOf ty_int = 1 := by kernel_rfl
theorem agg1 {v : Value} : v.cells.toList = [v] ∨ ∃ cs, v = .agg cs := by cases v <;> first | exact .inl rfl | exact .inr ⟨_, rfl⟩
theorem list_of' {α : Type} {n : Nat} {R : Nat → α → Prop} (h : ∀ i, i < n → ∃ x, R i x) : ∃ l : List α, l.length = n ∧ ∀ i x, l[i]? = some x → R i x := by
  induction n with
  | zero => exact ⟨[], rfl, fun i x hx => by simp at hx⟩
  | succ n ih =>
    obtain ⟨l, hl, hr⟩ := ih fun i hi => h i (by omega)
    obtain ⟨x, hx⟩ := h n (by omega)
    refine ⟨l ++ [x], by simp [hl], fun i y hy => ?_⟩
    rcases Nat.lt_or_ge i n with h1 | h1
    · rw [List.getElem?_append_left (by omega)] at hy; exact hr i y hy
    · rw [List.getElem?_append_right (by omega)] at hy
      cases hd : i - l.length with
      | zero => rw [hd] at hy; cases hy; rw [show i = n by omega]; exact hx
      | succ j => rw [hd] at hy; simp at hy
structure StrsIn (h : Mem) (s : Sl) (l : List ByteArray) (R : Nat) : Prop where
  els : Els h s (l.map scell)
  len : l.length * 16 ≤ R
  each : ∀ x ∈ l, x.size ≤ R
structure IntsIn (h : Mem) (s : Sl) (l : List Int) (R : Nat) : Prop where
  els : Els h s (l.map (Value.int .i64))
  len : l.length * 8 ≤ R
  each : ∀ x ∈ l, -9223372036854775808 ≤ x ∧ x ≤ 9223372036854775807
section
variable {H : Type} {enc : TypeId × Value → H} {w : World} {R : Nat}
theorem in_str {v : Value} {base : Nat} (ok : Value.okWide PG w .any base ty_string v) (a : Arg enc PG w ty_string v.cells.toList R) : ∃ s : ByteArray, v = .string s ∧ s.size ≤ R := by
  obtain ⟨x, rfl⟩ := WideShapes.okWide_string und_str ok
  obtain ⟨s, e, i⟩ := a.str und_str
  exact ⟨s, by simpa [Value.cells] using e, i⟩
theorem arg_int {cs : List Value} (a : Arg enc PG w ty_int cs R) : ∃ n : Int, cs = [.int .i64 n] ∧ -9223372036854775808 ≤ n ∧ n ≤ 9223372036854775807 := by
  obtain ⟨s, e, i⟩ := a.int und_i
  refine ⟨s, e, ?_⟩
  have h1 : IntKind.i64.min = -9223372036854775808 := by decide
  have h2 : IntKind.i64.max = 9223372036854775807 := by decide
  rw [h1, h2] at i
  exact i
theorem in_int {v : Value} {base : Nat} (ok : Value.okWide PG w .any base ty_int v) (a : Arg enc PG w ty_int v.cells.toList R) : ∃ n : Int, v = .int .i64 n ∧ -9223372036854775808 ≤ n ∧ n ≤ 9223372036854775807 := by
  obtain ⟨x, rfl⟩ := WideShapes.okWide_int und_i ok
  obtain ⟨s, e, i⟩ := arg_int a
  exact ⟨s, by simpa [Value.cells] using e, i⟩
theorem in_strs {v : Value} {base : Nat} (ok : Value.okWide PG w .any base ty_sl_string v) (a : Arg enc PG w ty_sl_string v.cells.toList R) : ∃ (s : Sl) (l : List ByteArray), v = sval s ∧ StrsIn w.heap s l R := by
  obtain ⟨x, n, c, rfl⟩ := WideShapes.okWide_slice und_strs ok
  obtain ⟨s, e, hn, hl, hb, _, he⟩ := a.slice und_strs
  rw [bytesOf_str] at hb
  rw [cellsOf_str] at he
  obtain ⟨l, hll, hr⟩ := list_of' (n := s.len) (R := fun i (b : ByteArray) => (∃ p, s.a = some p ∧ Cells w.heap (p.add (i * 1)) [scell b]) ∧ b.size ≤ R) fun i hi => by
    obtain ⟨p, ecs, hp, hc, _, ha⟩ := he i (by omega)
    obtain ⟨b, rfl, hb⟩ := ha.str und_str
    exact ⟨b, ⟨p, hp, hc⟩, hb⟩
  refine ⟨s, l, by simpa [Value.cells] using e, ⟨by rw [List.length_map]; exact hll.symm, fun i v hv => ?_, hn, hl⟩, ?_, fun x hx => ?_⟩
  · rw [List.getElem?_map] at hv
    cases hi : l[i]? with
    | none => rw [hi] at hv; cases hv
    | some b =>
      rw [hi] at hv; cases hv
      obtain ⟨⟨p, hp, hc⟩, _⟩ := hr i b hi
      have := hc 0 _ rfl
      rw [Nat.mul_one] at this
      exact ⟨p, hp, this⟩
  · rw [hll]; exact Nat.le_trans (Nat.mul_le_mul_right _ hl) hb
  · obtain ⟨i, hi⟩ := List.getElem?_of_mem hx
    exact (hr i x hi).2
theorem in_ints {v : Value} {base : Nat} (ok : Value.okWide PG w .any base ty_sl_int v) (a : Arg enc PG w ty_sl_int v.cells.toList R) : ∃ (s : Sl) (l : List Int), v = sval s ∧ IntsIn w.heap s l R := by
  obtain ⟨x, n, c, rfl⟩ := WideShapes.okWide_slice und_ints ok
  obtain ⟨s, e, hn, hl, hb, _, he⟩ := a.slice und_ints
  rw [bytesOf_int] at hb
  rw [cellsOf_int] at he
  obtain ⟨l, hll, hr⟩ := list_of' (n := s.len) (R := fun i (b : Int) => (∃ p, s.a = some p ∧ Cells w.heap (p.add (i * 1)) [.int .i64 b]) ∧ (-9223372036854775808 ≤ b ∧ b ≤ 9223372036854775807)) fun i hi => by
    obtain ⟨p, ecs, hp, hc, _, ha⟩ := he i (by omega)
    obtain ⟨b, rfl, hb⟩ := arg_int ha
    exact ⟨b, ⟨p, hp, hc⟩, hb⟩
  refine ⟨s, l, by simpa [Value.cells] using e, ⟨by rw [List.length_map]; exact hll.symm, fun i v hv => ?_, hn, hl⟩, ?_, fun x hx => ?_⟩
  · rw [List.getElem?_map] at hv
    cases hi : l[i]? with
    | none => rw [hi] at hv; cases hv
    | some b =>
      rw [hi] at hv; cases hv
      obtain ⟨⟨p, hp, hc⟩, _⟩ := hr i b hi
      have := hc 0 _ rfl
      rw [Nat.mul_one] at this
      exact ⟨p, hp, this⟩
  · rw [hll]; exact Nat.le_trans (Nat.mul_le_mul_right _ hl) hb
  · obtain ⟨i, hi⟩ := List.getElem?_of_mem hx
    exact (hr i x hi).2
end
end Go.Dn.W
