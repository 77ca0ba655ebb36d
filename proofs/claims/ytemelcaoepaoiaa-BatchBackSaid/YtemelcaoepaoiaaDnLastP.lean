/- The last operations: plain laws. -/
import Derived.Test.YtemelcaoepaoiaaDnOps
import Derived.Test.YtemelcaoepaoiaaDnDoP
set_option linter.unusedVariables false
namespace Go.Dn.W
open Go Go.Dn Go.Proofs

/-- of each key the last operation -/
def lastOf (ops : List Opn) (k : ByteArray) : Option Opn := ops.foldl (fun m o => if o.key = k then some o else m) none
theorem lastOf_snoc (ops : List Opn) (o : Opn) (k : ByteArray) : lastOf (ops ++ [o]) k = if o.key = k then some o else lastOf ops k := by simp [lastOf]
def insO (l : List Opn) (o : Opn) : List Opn := l.filter (fun p => sLt p.key o.key) ++ [o] ++ l.filter (fun p => sLt o.key p.key)
def pLast (ops : List Opn) : List Opn := ops.foldl insO []
theorem pLast_snoc (ops : List Opn) (o : Opn) : pLast (ops ++ [o]) = insO (pLast ops) o := by simp [pLast]
def RisesO (l : List Opn) : Prop := l.Pairwise fun p q => sLt p.key q.key = true
structure IsLast (ops l : List Opn) : Prop where
  rise : RisesO l
  mem : ∀ o, o ∈ l ↔ lastOf ops o.key = some o

theorem snoc_ind {α : Type} {P : List α → Prop} (h0 : P []) (h1 : ∀ l x, P l → P (l ++ [x])) (l : List α) : P l := by
  have : ∀ m : List α, P m.reverse := fun m => by
    induction m with
    | nil => exact h0
    | cons x m ih => rw [List.reverse_cons]; exact h1 _ _ ih
  have h := this l.reverse
  rwa [List.reverse_reverse] at h
theorem lastOf_key {ops : List Opn} : ∀ {k : ByteArray} {o : Opn}, lastOf ops k = some o → o.key = k ∧ o ∈ ops := by
  refine snoc_ind (P := fun ops => ∀ {k : ByteArray} {o : Opn}, lastOf ops k = some o → o.key = k ∧ o ∈ ops) (fun {k o} h => by cases h) (fun l x ih {k o} h => ?_) ops
  rw [lastOf_snoc] at h
  split at h
  · cases h; exact ⟨‹_›, by simp⟩
  · exact ⟨(ih h).1, by simp [(ih h).2]⟩
theorem lastOf_some {ops : List Opn} : ∀ {k : ByteArray}, (∃ o ∈ ops, o.key = k) → ∃ o, lastOf ops k = some o := by
  refine snoc_ind (P := fun ops => ∀ {k : ByteArray}, (∃ o ∈ ops, o.key = k) → ∃ o, lastOf ops k = some o) (fun {k} ⟨o, h, _⟩ => by cases h) (fun l x ih {k} ⟨o, ho, hk⟩ => ?_) ops
  rw [lastOf_snoc]
  by_cases e : x.key = k
  · exact ⟨x, by rw [if_pos e]⟩
  · rw [if_neg e]
    rcases List.mem_append.1 ho with h | h
    · exact ih ⟨o, h, hk⟩
    · simp only [List.mem_cons, List.not_mem_nil, or_false] at h
      subst h; exact absurd hk e

theorem riseO_ext : ∀ {l m : List Opn}, RisesO l → RisesO m → (∀ p, p ∈ l ↔ p ∈ m) → l = m
  | [], [], _, _, _ => rfl
  | [], q :: m, _, _, h => by have := (h q).2 (by simp); cases this
  | p :: l, [], _, _, h => by have := (h p).1 (by simp); cases this
  | p :: l, q :: m, hl, hm, h => by
    obtain ⟨h1, h2⟩ := List.pairwise_cons.1 hl
    obtain ⟨h3, h4⟩ := List.pairwise_cons.1 hm
    have e : p = q := by
      rcases List.mem_cons.1 ((h p).1 (by simp)) with e | e
      · exact e
      · rcases List.mem_cons.1 ((h q).2 (by simp)) with e' | e'
        · exact e'.symm
        · have a := h3 p e
          have b := h1 q e'
          rw [sLt_asymm a] at b; cases b
    subst e
    have key : ∀ x, x ∈ l ↔ x ∈ m := fun x => by
      have nl : x ∈ l → x ≠ p := fun hx e => by have := h1 x hx; rw [e, sLt_irrefl] at this; cases this
      have nm : x ∈ m → x ≠ p := fun hx e => by have := h3 x hx; rw [e, sLt_irrefl] at this; cases this
      constructor
      · intro hx
        rcases List.mem_cons.1 ((h x).1 (List.mem_cons_of_mem _ hx)) with e | e
        · exact absurd e (nl hx)
        · exact e
      · intro hx
        rcases List.mem_cons.1 ((h x).2 (List.mem_cons_of_mem _ hx)) with e | e
        · exact absurd e (nm hx)
        · exact e
    rw [riseO_ext h2 h4 key]
theorem IsLast.unique {ops l m : List Opn} (a : IsLast ops l) (b : IsLast ops m) : l = m := riseO_ext a.rise b.rise fun o => (a.mem o).trans (b.mem o).symm

theorem mem_insO {l : List Opn} {o p : Opn} : p ∈ insO l o ↔ (p ∈ l ∧ p.key ≠ o.key) ∨ p = o := by
  unfold insO
  simp only [List.mem_append, List.mem_filter, List.mem_cons, List.not_mem_nil, or_false]
  constructor
  · rintro ((⟨h1, h2⟩ | h) | ⟨h1, h2⟩)
    · exact .inl ⟨h1, sLt_ne h2⟩
    · exact .inr h
    · exact .inl ⟨h1, fun e => sLt_ne h2 e.symm⟩
  · rintro (⟨h1, h2⟩ | rfl)
    · cases h3 : sLt p.key o.key with
      | true => exact .inl (.inl ⟨h1, rfl⟩)
      | false => exact .inr ⟨h1, sLt_of_not h3 h2⟩
    · exact .inl (.inr rfl)
theorem RisesO.insO {l : List Opn} (r : RisesO l) (o : Opn) : RisesO (insO l o) := by
  unfold RisesO W.insO
  rw [List.append_assoc, List.pairwise_append]
  refine ⟨r.sublist List.filter_sublist, ?_, ?_⟩
  · rw [List.singleton_append, List.pairwise_cons]
    exact ⟨fun p hp => (List.mem_filter.1 hp).2, r.sublist List.filter_sublist⟩
  · intro p hp q hq
    have h1 := (List.mem_filter.1 hp).2
    rcases List.mem_append.1 hq with h | h
    · simp only [List.mem_cons, List.not_mem_nil, or_false] at h
      rw [h]; exact h1
    · exact sLt_trans h1 (List.mem_filter.1 h).2
theorem pLast_is (ops : List Opn) : IsLast ops (pLast ops) := by
  refine snoc_ind (P := fun ops => IsLast ops (pLast ops)) ⟨List.Pairwise.nil, fun o => ⟨fun h => (by cases h), fun h => (by cases h)⟩⟩ (fun l x ih => ?_) ops
  rw [pLast_snoc]
  refine ⟨ih.rise.insO x, fun o => ?_⟩
  rw [mem_insO, lastOf_snoc, ih.mem]
  by_cases e : x.key = o.key
  · rw [if_pos e]
    constructor
    · rintro (⟨_, h⟩ | h)
      · exact absurd e.symm h
      · rw [h]
    · intro h; cases h; exact .inr rfl
  · rw [if_neg e]
    constructor
    · rintro (⟨h, _⟩ | h)
      · exact h
      · rw [h] at e; exact absurd rfl e
    · intro h; exact .inl ⟨h, fun e' => e e'.symm⟩
theorem insO_length {l : List Opn} (r : RisesO l) (o : Opn) : (insO l o).length ≤ l.length + 1 := by
  have : ((l.filter fun p => sLt p.key o.key).length + (l.filter fun p => sLt o.key p.key).length) ≤ l.length := by
    clear r
    induction l with
    | nil => simp
    | cons p l ih =>
      simp only [List.filter_cons]
      cases h1 : sLt p.key o.key with
      | true => rw [sLt_asymm h1]; simp; omega
      | false =>
        cases h2 : sLt o.key p.key with
        | true => simp; omega
        | false => simp; omega
  unfold insO
  simp only [List.length_append, List.length_cons, List.length_nil]
  omega
theorem pLast_length (ops : List Opn) : (pLast ops).length ≤ ops.length := by
  refine snoc_ind (P := fun ops => (pLast ops).length ≤ ops.length) (Nat.le_refl _) (fun l x ih => ?_) ops
  rw [pLast_snoc]
  have := insO_length (pLast_is l).rise x
  simp only [List.length_append, List.length_cons, List.length_nil]
  omega
theorem pLast_mem {ops : List Opn} {o : Opn} (h : o ∈ pLast ops) : o ∈ ops := (lastOf_key (((pLast_is ops).mem o).1 h)).2

/-- the last ones of what rises are itself -/
theorem lastOf_rises {l : List Opn} (r : RisesO l) : ∀ o, o ∈ l ↔ lastOf l o.key = some o := by
  intro o
  constructor
  · intro ho
    obtain ⟨p, hp⟩ := lastOf_some ⟨o, ho, rfl⟩
    obtain ⟨h1, h2⟩ := lastOf_key hp
    suffices p = o by rw [hp, this]
    clear hp
    unfold RisesO at r
    induction l with
    | nil => cases ho
    | cons x l ih =>
      obtain ⟨r1, r2⟩ := List.pairwise_cons.1 r
      rcases List.mem_cons.1 ho with rfl | ho'
      · rcases List.mem_cons.1 h2 with rfl | h2
        · rfl
        · have := r1 p h2; rw [h1, sLt_irrefl] at this; cases this
      · rcases List.mem_cons.1 h2 with rfl | h2
        · have := r1 o ho'; rw [h1, sLt_irrefl] at this; cases this
        · exact ih r2 ho' h2
  · exact fun h => (lastOf_key h).2
theorem pLast_idem (ops : List Opn) : pLast (pLast ops) = pLast ops := (pLast_is _).unique ⟨(pLast_is ops).rise, lastOf_rises (pLast_is ops).rise⟩
theorem lastOf_append (a b : List Opn) (k : ByteArray) : lastOf (a ++ b) k = (lastOf b k).or (lastOf a k) := by
  refine snoc_ind (P := fun b => lastOf (a ++ b) k = (lastOf b k).or (lastOf a k)) (by simp [lastOf]) (fun l x ih => ?_) b
  rw [← List.append_assoc, lastOf_snoc, lastOf_snoc, ih]
  split <;> rfl
theorem lastOf_pLast (ops : List Opn) (k : ByteArray) : lastOf (pLast ops) k = lastOf ops k := by
  have key : ∀ o, lastOf (pLast ops) k = some o ↔ lastOf ops k = some o := fun o => by
    constructor
    · intro h
      obtain ⟨h1, h2⟩ := lastOf_key h
      rw [← h1]; exact ((pLast_is ops).mem o).1 h2
    · intro h
      have h1 := (lastOf_key h).1
      subst h1
      exact (lastOf_rises (pLast_is ops).rise o).1 (((pLast_is ops).mem o).2 h)
  cases h : lastOf (pLast ops) k with
  | none =>
    cases h' : lastOf ops k with
    | none => rfl
    | some o => rw [(key o).2 h'] at h; cases h
  | some o => exact ((key o).1 h).symm
theorem pLast_both (a b : List Opn) : pLast (a ++ b) = pLast (pLast a ++ pLast b) := by
  refine (pLast_is _).unique ⟨(pLast_is _).rise, fun o => ?_⟩
  rw [(pLast_is _).mem, lastOf_append, lastOf_append, lastOf_pLast, lastOf_pLast]
end Go.Dn.W
