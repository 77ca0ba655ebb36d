/- Arguments: what a row lets one read, said of the heap. -/
import Derived.Test.YtbipdjmdacelkaaGreatDnMem
import Derived.Test.YtbipdjmdacelkaaGreatDnRow
import Derived.ChangeArms
import Derived.ChangeShapes
import Derived.ChangeOld
import Derived.SizedLaws
namespace Go.Dn
open Go Go.WideShapes

section
variable {H : Type} {enc : TypeId × Value → H} {P : Program} {w : World} {R : Nat}

/-- the cells can be read as a value of that type, within the reach -/
def Arg (enc : TypeId × Value → H) (P : Program) (w : World) (t : TypeId) (cs : List Value) (R : Nat := 140737488351232) : Prop :=
  ∃ (fuel : Nat) (x : DataW H × List MemPlace), DataW.trod enc P w 0 (fun _ => true) true fuel t cs = some x ∧ ∀ n ∈ x.1.weights P t, n ≤ R

theorem Arg.of {ts : List TypeId} {ds : List (DataW H)} {j : Nat} {t : TypeId} {v : Value} {d : DataW H} {ps : List MemPlace} (h : DataW.Trod enc P w 0 (fun _ => true) true t v d ps) (hs : (DataW.weightsEach P ts ds).all (· ≤ reachBytes) = true) (ht : ts[j]? = some t) (hd : ds[j]? = some d) :
    Arg enc P w t v.cells.toList := by
  obtain ⟨fuel, hf⟩ := h
  exact ⟨fuel, _, hf, fun n hn => by
    have := List.all_eq_true.1 hs n (DataW.weights_mem_each ht hd n hn)
    simp only [decide_eq_true_eq] at this
    exact this⟩

theorem Arg.str {t : TypeId} {cs : List Value} (hu : P.underlying t = some .string) (a : Arg enc P w t cs R) : ∃ s : ByteArray, cs = [.string s] ∧ s.size ≤ R := by
  obtain ⟨f, x, h, hw⟩ := a
  obtain ⟨s, rfl, rfl, _⟩ := DataW.trod_string hu h
  exact ⟨s, rfl, by have := hw s.data.toList.length (by simp [DataW.weights]); rw [Array.length_toList] at this; exact this⟩
theorem Arg.int {t : TypeId} {k : IntKind} {cs : List Value} (hu : P.underlying t = some (.int k)) (a : Arg enc P w t cs R) : ∃ n : Int, cs = [.int k n] ∧ k.min ≤ n ∧ n ≤ k.max := by
  obtain ⟨f, x, h, hw⟩ := a
  obtain ⟨n, rfl, _, hn⟩ := DataW.trod_int hu h
  simp only [Lit.wf, Bool.and_eq_true, decide_eq_true_eq] at hn
  exact ⟨n, rfl, hn⟩
theorem Arg.bool {t : TypeId} {cs : List Value} (hu : P.underlying t = some .bool) (a : Arg enc P w t cs R) : ∃ b : Bool, cs = [.bool b] := by
  obtain ⟨f, x, h, hw⟩ := a
  obtain ⟨b, rfl, _⟩ := DataW.trod_bool hu h
  exact ⟨b, rfl⟩
theorem Arg.struct {t : TypeId} {fs : Array Field} {cs : List Value} (hu : P.underlying t = some (.struct fs)) (a : Arg enc P w t cs R) :
    cs.length = P.cellsOf t ∧ ∀ (i : Nat) (f : Field), fs[i]? = some f → Arg enc P w f.type ((cs.drop f.offset).take (P.cellsOf f.type)) R := by
  obtain ⟨f, x, h, hw⟩ := a
  obtain ⟨xs, n, _, rfl, hl, hx, hf⟩ := DataW.trod_struct hu h
  refine ⟨hl, fun i f hi => ?_⟩
  have h1 := hf i f hi
  have hlt : i < xs.length := by rw [hx]; exact (Array.getElem?_eq_some_iff.1 hi).1
  rw [List.getElem?_eq_getElem hlt] at h1
  refine ⟨n, _, h1, fun m hm => hw m ?_⟩
  simp only [DataW.weights, hu]
  exact DataW.weights_mem_each (j := i) (by rw [List.getElem?_map, Array.getElem?_toList, hi]; rfl) (by rw [List.getElem?_map, List.getElem?_eq_getElem hlt]; rfl) m hm

theorem weights_mem_all {e : TypeId} : ∀ {l : List (DataW H)} {d : DataW H}, d ∈ l → ∀ n ∈ d.weights P e, n ∈ DataW.weightsAll P e l
  | [], d, hd, _, _ => by cases hd
  | x :: l, d, hd, n, hn => by
    simp only [DataW.weightsAll, List.mem_append]
    rcases List.mem_cons.1 hd with rfl | hd
    · exact .inl hn
    · exact .inr (weights_mem_all hd n hn)

theorem mapM_cells {w : World} {a : Addr} : ∀ {n k : Nat} {l : List Value}, ((List.range' k n).mapM fun i => w.cell? (a.add i)) = some l → l.length = n ∧ ∀ (i : Nat) v, l[i]? = some v → w.cell? (a.add (k + i)) = some v
  | 0, k, l, h => by
    simp only [List.range'_zero, List.mapM_nil] at h
    cases h
    exact ⟨rfl, fun i v hi => by simp at hi⟩
  | n + 1, k, l, h => by
    rw [List.range'_succ, List.mapM_cons] at h
    cases h1 : w.cell? (a.add k) with
    | none => rw [h1] at h; cases h
    | some v0 =>
      rw [h1] at h
      cases h2 : (List.range' (k + 1) n).mapM (fun i => w.cell? (a.add i)) with
      | none => simp only [h2] at h; cases h
      | some l' =>
        simp only [h2] at h
        cases h
        obtain ⟨hl, hc⟩ := mapM_cells h2
        refine ⟨by simp [hl], fun i v hi => ?_⟩
        match i, hi with
        | 0, hi => simp only [List.getElem?_cons_zero, Option.some.injEq] at hi; subst hi; exact h1
        | i + 1, hi =>
          simp only [List.getElem?_cons_succ] at hi
          have := hc i v hi
          rw [show k + (i + 1) = k + 1 + i by omega]; exact this
theorem cells_of {w : World} {base n : Nat} {a : Addr} {l : List Value} (h : w.cells? base a n = some l) : l.length = n ∧ Cells w.heap a l := by
  unfold World.cells? at h
  split at h
  · rw [List.range_eq_range'] at h
    obtain ⟨hl, hc⟩ := mapM_cells h
    exact ⟨hl, fun i v hv => by have := hc i v hv; rw [Nat.zero_add] at this; exact this⟩
  · cases h

theorem Arg.slice {t e : TypeId} {cs : List Value} (hu : P.underlying t = some (.slice e)) (a : Arg enc P w t cs R) :
    ∃ s : Sl, cs = [.slice s.a s.len s.cap] ∧ (s.a = none → s.len = 0 ∧ s.cap = 0) ∧ s.len ≤ s.cap ∧ s.cap * P.bytesOf e ≤ R ∧ s.cap ≤ maxLen ∧
      ∀ i, i < s.cap → ∃ p ecs, s.a = some p ∧ Cells w.heap (p.add (i * P.cellsOf e)) ecs ∧ ecs.length = P.cellsOf e ∧ Arg enc P w e ecs R := by
  obtain ⟨f, x, h, hw⟩ := a
  rcases DataW.trod_slice hu h with ⟨rfl, rfl⟩ | ⟨p, len, cap, elems, rest, n, _, rfl, rfl, hb, hl, hm, hlen, hel, hsp, _⟩
  · exact ⟨⟨none, 0, 0⟩, rfl, fun _ => ⟨rfl, rfl⟩, Nat.le_refl _, by simp, Nat.zero_le _, fun i hi => by simp at hi⟩
  · obtain ⟨hrl, hrest⟩ := hsp rfl
    simp only [DataW.weights, hu] at hw
    refine ⟨⟨some p, len, cap⟩, rfl, fun hn => (by cases hn), hl, ?_, hm, fun i hi => ?_⟩
    · have := hw _ (List.mem_cons_self ..)
      rw [List.length_map, List.length_map, hlen, hrl, show len + (cap - len) = cap by omega] at this
      exact this
    · have fin : ∀ (y : DataW H × List MemPlace), y ∈ elems ++ rest → (w.cells? 0 (p.add (i * P.cellsOf e)) (P.cellsOf e)).bind (DataW.trod enc P w 0 (fun _ => true) true n e) = some y →
          ∃ q ecs, some p = some q ∧ Cells w.heap (q.add (i * P.cellsOf e)) ecs ∧ ecs.length = P.cellsOf e ∧ Arg enc P w e ecs R := by
        intro y hy hbnd
        obtain ⟨ecs, hcs, hy'⟩ := Option.bind_eq_some_iff.1 hbnd
        obtain ⟨hl', hc'⟩ := cells_of hcs
        refine ⟨p, ecs, rfl, hc', hl', n, y, hy', fun m hmm => hw m (List.mem_cons_of_mem _ ?_)⟩
        rw [List.mem_append]
        rcases List.mem_append.1 hy with hy | hy
        · exact .inl (weights_mem_all (List.mem_map_of_mem hy) m hmm)
        · exact .inr (weights_mem_all (List.mem_map_of_mem hy) m hmm)
      rcases Nat.lt_or_ge i len with hlt | hge
      · have h1 := hel i hlt
        have hlt' : i < elems.length := by omega
        rw [List.getElem?_eq_getElem hlt'] at h1
        exact fin _ (List.mem_append_left _ (List.getElem_mem hlt')) h1
      · have hlt' : i - len < rest.length := by rw [hrl]; simp only at hi; omega
        have h1 := hrest (i - len) (by omega)
        rw [show len + (i - len) = i by omega, List.getElem?_eq_getElem hlt'] at h1
        exact fin _ (List.mem_append_right _ (List.getElem_mem hlt')) h1

/-- one of each, in a list -/
theorem list_of {α : Type} {n : Nat} {R : Nat → α → Prop} (h : ∀ i, i < n → ∃ x, R i x) : ∃ l : List α, l.length = n ∧ ∀ (i : Nat) x, l[i]? = some x → R i x := by
  induction n with
  | zero => exact ⟨[], rfl, fun i x hi => by simp at hi⟩
  | succ n ih =>
    obtain ⟨l, hl, hr⟩ := ih fun i hi => h i (by omega)
    obtain ⟨x, hx⟩ := h n (by omega)
    refine ⟨l ++ [x], by simp [hl], fun i y hy => ?_⟩
    rcases Nat.lt_or_ge i l.length with hlt | hge
    · rw [List.getElem?_append_left hlt] at hy; exact hr i y hy
    · rw [List.getElem?_append_right hge] at hy
      cases hd : i - l.length with
      | zero => rw [hd] at hy; cases hy; rw [show i = n by omega]; exact hx
      | succ k => rw [hd] at hy; simp at hy
end
end Go.Dn
