/- What the bound of the second form gives: no list is longer. -/
import Derived.Test.YtemelcaoepaoiaaRows
import Derived.Test.YtemelcaoepaoiaaDnPArg
set_option linter.unusedVariables false
namespace Go.Dn.W
open Go Go.Dn Go.Proofs Go.Proofs.Ytemelcaoepaoiaa Go.WideShapes

theorem up_one {H : Type} (d : DataW H) : 1 ≤ Rows.uptoBulk d := by
  cases d with
  | lit l => cases l <;> simp [Rows.uptoBulk]
  | nil => simp [Rows.uptoBulk]
  | ptr d => simp [Rows.uptoBulk]
  | slice elems spare => simp [Rows.uptoBulk]
  | agg parts => simp [Rows.uptoBulk]
  | iface t d => simp [Rows.uptoBulk]
  | map entries => simp [Rows.uptoBulk]
  | held h => simp [Rows.uptoBulk]
theorem up_part {H : Type} {d : DataW H} {l : List (DataW H)} (h : d ∈ l) : Rows.uptoBulk d ≤ Rows.uptoBulkAll l := by
  induction l with
  | nil => cases h
  | cons x r ih =>
    simp only [Rows.uptoBulkAll]
    cases List.mem_cons.1 h with
    | inl e => subst e; omega
    | inr e => have := ih e; omega
theorem up_length {H : Type} (l : List (DataW H)) : l.length ≤ Rows.uptoBulkAll l := by
  induction l with
  | nil => simp [Rows.uptoBulkAll]
  | cons x r ih => have := up_one x; simp only [Rows.uptoBulkAll, List.length_cons]; omega
theorem up_bound {H : Type} {l : List (DataW H)} (hk : Rows.uptoSmall H l = true) {d : DataW H} (hd : d ∈ l) : Rows.uptoBulk d ≤ 1048576 :=
  Nat.le_trans (up_part hd) (of_decide_eq_true hk)
theorem up_slice {H : Type} {enc : TypeId × Value → H} {w : World} {t e : TypeId} {a : Option Addr} {n c N : Nat} {d : DataW H} {ps : List MemPlace} (hu : PG.underlying t = some (.slice e))
    (h : DataW.Trod enc PG w 0 (fun _ => true) true t (.slice a n c) d ps) (hb : Rows.uptoBulk d ≤ N) : n ≤ N ∧ c ≤ N := by
  obtain ⟨f, h⟩ := h
  rcases DataW.trod_slice hu h with ⟨e1, e2⟩ | ⟨p, len, cap, elems, rest, m, _, e1, e2, hb', hl, hm, hlen, hel, hsp, _⟩
  · simp only [Value.cells] at e1
    have e1 : Value.slice a n c = Value.slice none 0 0 := by simpa using e1
    cases e1
    exact ⟨Nat.zero_le _, Nat.zero_le _⟩
  · simp only [Value.cells] at e1
    have e1 : Value.slice a n c = Value.slice (some p) len cap := by simpa using e1
    cases e1
    obtain ⟨hrl, _⟩ := hsp rfl
    cases e2
    simp only [Rows.uptoBulk] at hb
    have h1 := up_length (elems.map (·.1))
    have h2 := up_length (rest.map (·.1))
    rw [List.length_map] at h1 h2
    exact ⟨by omega, by omega⟩
end Go.Dn.W
