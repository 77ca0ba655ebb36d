/- Operations done to lists of pairs: the plain law. -/
import Derived.Test.YtemelcaoepaoiaaDnOps
namespace Go.Dn.W
open Go Go.Dn Go.Proofs

def newOf (o : Opn) : List Pr := if o.del then [] else [⟨o.key, o.val⟩]
/-- an operation done to pairs -/
def doOne (l : List Pr) (o : Opn) : List Pr := l.filter (fun p => sLt p.key o.key) ++ newOf o ++ l.filter (fun p => sLt o.key p.key)
def doAll (l : List Pr) (ops : List Opn) : List Pr := ops.foldl doOne l

theorem doAll_snoc (l : List Pr) (ops : List Opn) (o : Opn) : doAll l (ops ++ [o]) = doOne (doAll l ops) o := by simp [doAll]
theorem doAll_append (l : List Pr) (a b : List Opn) : doAll l (a ++ b) = doAll (doAll l a) b := by simp [doAll]

/-! ### in order, pair by pair -/

theorem Right.iff {l : List Pr} : Right l ↔ (∀ p ∈ l, pOk p = true) ∧ l.Pairwise fun p q => sLt p.key q.key = true := by
  constructor
  · intro r
    refine ⟨fun p hp => ?_, ?_⟩
    · obtain ⟨i, hi⟩ := List.getElem?_of_mem hp
      exact (r i p (List.getElem?_eq_some_iff.1 hi).1 hi).1
    · rw [List.pairwise_iff_getElem]
      intro i j hi hj hij
      exact r.lt hij (List.getElem?_eq_getElem hi) (List.getElem?_eq_getElem hj)
  · rintro ⟨h1, h2⟩ i p hi hp
    refine ⟨h1 p (List.mem_of_getElem? hp), ?_⟩
    rintro j q rfl hq
    rw [List.pairwise_iff_getElem] at h2
    obtain ⟨hj, rfl⟩ := List.getElem?_eq_some_iff.1 hq
    obtain ⟨hj', rfl⟩ := List.getElem?_eq_some_iff.1 hp
    exact h2 j (j + 1) hj hj' (Nat.lt_succ_self _)
theorem Right.nil : Right [] := fun i p hi => by simp at hi
instance (l : List Pr) : Decidable (Right l) := decidable_of_iff _ Right.iff.symm

def oOk (o : Opn) : Bool := pMay o.key && decide (o.val.length ≤ 4096)
theorem Right.doOne {l : List Pr} (r : Right l) {o : Opn} (ho : oOk o = true) : Right (doOne l o) := by
  obtain ⟨h1, h2⟩ := Right.iff.1 r
  refine Right.iff.2 ⟨fun p hp => ?_, ?_⟩
  · unfold W.doOne newOf at hp
    simp only [List.mem_append, List.mem_filter] at hp
    rcases hp with (⟨hp, _⟩ | hp) | ⟨hp, _⟩
    · exact h1 p hp
    · split at hp
      · cases hp
      · simp only [List.mem_cons, List.not_mem_nil, or_false] at hp
        subst hp; exact ho
    · exact h1 p hp
  · unfold W.doOne
    rw [List.pairwise_append, List.pairwise_append]
    refine ⟨⟨h2.filter _, ?_, ?_⟩, h2.filter _, ?_⟩
    · unfold newOf; split <;> simp
    · intro p hp q hq
      unfold newOf at hq
      split at hq
      · cases hq
      · simp only [List.mem_cons, List.not_mem_nil, or_false] at hq
        subst hq
        exact (List.mem_filter.1 hp).2
    · intro p hp q hq
      have hq2 := (List.mem_filter.1 hq).2
      rcases List.mem_append.1 hp with hp | hp
      · exact sLt_trans (List.mem_filter.1 hp).2 hq2
      · unfold newOf at hp
        split at hp
        · cases hp
        · simp only [List.mem_cons, List.not_mem_nil, or_false] at hp
          subst hp
          exact hq2
theorem Right.doAll {ops : List Opn} : ∀ {l : List Pr}, Right l → (∀ o ∈ ops, oOk o = true) → Right (doAll l ops) := by
  induction ops with
  | nil => intro l r _; exact r
  | cons o ops ih =>
    intro l r ho
    exact ih (r.doOne (ho o (by simp))) fun o' h' => ho o' (by simp [h'])
theorem doOne_length {l : List Pr} (o : Opn) : (doOne l o).length ≤ l.length + 1 := by
  have : ∀ l : List Pr, (l.filter (fun p => sLt p.key o.key)).length + (l.filter (fun p => sLt o.key p.key)).length ≤ l.length := by
    intro l
    induction l with
    | nil => simp
    | cons p l ih =>
      rw [List.filter_cons, List.filter_cons]
      by_cases h1 : sLt p.key o.key = true
      · have h2 := sLt_asymm h1
        simp [h1, h2]; omega
      · simp only [h1, if_false, Bool.false_eq_true]
        split <;> simp <;> omega
  have h1 := this l
  unfold doOne newOf
  simp only [List.length_append]
  split <;> simp <;> omega

/-! ### where the key stands -/

theorem mem_take_get {α : Type} {l : List α} {n : Nat} {x : α} (h : x ∈ l.take n) : ∃ i, i < n ∧ l[i]? = some x := by
  obtain ⟨i, hi⟩ := List.getElem?_of_mem h
  rw [List.getElem?_take] at hi
  split at hi
  · exact ⟨i, ‹_›, hi⟩
  · cases hi
theorem mem_drop_get {α : Type} {l : List α} {n : Nat} {x : α} (h : x ∈ l.drop n) : ∃ i, n ≤ i ∧ l[i]? = some x := by
  obtain ⟨i, hi⟩ := List.getElem?_of_mem h
  rw [List.getElem?_drop] at hi
  exact ⟨n + i, by omega, hi⟩

theorem filter_split {α : Type} (l : List α) (n : Nat) (f : α → Bool) : l.filter f = (l.take n).filter f ++ (l.drop n).filter f := by
  rw [← List.filter_append, List.take_append_drop]
theorem filter_take {α : Type} {l : List α} {n : Nat} {f : α → Bool} (h1 : ∀ i x, i < n → l[i]? = some x → f x = true) (h2 : ∀ i x, n ≤ i → l[i]? = some x → f x = false) : l.filter f = l.take n := by
  rw [filter_split l n, List.filter_eq_self.2, List.filter_eq_nil_iff.2, List.append_nil]
  · intro x hx; obtain ⟨i, hi, hx⟩ := mem_drop_get hx; simp [h2 i x hi hx]
  · intro x hx; obtain ⟨i, hi, hx⟩ := mem_take_get hx; exact h1 i x hi hx
theorem filter_drop {α : Type} {l : List α} {n : Nat} {f : α → Bool} (h1 : ∀ i x, i < n → l[i]? = some x → f x = false) (h2 : ∀ i x, n ≤ i → l[i]? = some x → f x = true) : l.filter f = l.drop n := by
  rw [filter_split l n, List.filter_eq_nil_iff.2, List.filter_eq_self.2, List.nil_append]
  · intro x hx; obtain ⟨i, hi, hx⟩ := mem_drop_get hx; exact h2 i x hi hx
  · intro x hx; obtain ⟨i, hi, hx⟩ := mem_take_get hx; simp [h1 i x hi hx]

theorem Place.take {l : List Pr} {key : ByteArray} {n : Nat} (pl : Place l key n) : l.filter (fun p => sLt p.key key) = l.take n := filter_take pl.below pl.above
theorem Place.dropNone {l : List Pr} {key : ByteArray} {n : Nat} (pl : Place l key n) (r : Right l) (hn : ∀ p, l[n]? = some p → p.key ≠ key) : l.filter (fun p => sLt key p.key) = l.drop n := by
  refine filter_drop (fun i p hi hp => sLt_asymm (pl.below i p hi hp)) fun i p hi hp => ?_
  refine sLt_of_not (pl.above i p hi hp) fun e => ?_
  rcases Nat.lt_or_ge n i with h1 | h1
  · obtain ⟨q, hq⟩ : ∃ q, l[n]? = some q := ⟨_, List.getElem?_eq_getElem (by have := (List.getElem?_eq_some_iff.1 hp).1; omega)⟩
    have h2 := r.lt h1 hq hp
    rw [e, pl.above n q (Nat.le_refl _) hq] at h2
    cases h2
  · obtain rfl : i = n := by omega
    exact hn p hp e
theorem Place.dropSome {l : List Pr} {key : ByteArray} {n : Nat} (pl : Place l key n) (r : Right l) {p : Pr} (hn : l[n]? = some p) (hk : p.key = key) : l.filter (fun p => sLt key p.key) = l.drop (n + 1) := by
  refine filter_drop (fun i q hi hq => ?_) fun i q hi hq => ?_
  · rcases Nat.lt_or_ge i n with h1 | h1
    · exact sLt_asymm (pl.below i q h1 hq)
    · obtain rfl : i = n := by omega
      rw [hn] at hq; cases hq
      rw [hk]; exact sLt_irrefl _
  · have := r.lt (show n < i by omega) hn hq
    rw [hk] at this; exact this

theorem Place.delSome {l : List Pr} {o : Opn} {n : Nat} (pl : Place l o.key n) (r : Right l) {p : Pr} (hn : l[n]? = some p) (hk : p.key = o.key) (hd : o.del = true) : l.take n ++ l.drop (n + 1) = doOne l o := by
  unfold doOne newOf
  rw [pl.take, pl.dropSome r hn hk, hd]; simp
theorem Place.delNone {l : List Pr} {o : Opn} {n : Nat} (pl : Place l o.key n) (r : Right l) (hn : ∀ p, l[n]? = some p → p.key ≠ o.key) (hd : o.del = true) : l = doOne l o := by
  unfold doOne newOf
  rw [pl.take, pl.dropNone r hn, hd]; simp
theorem Place.putSome {l : List Pr} {o : Opn} {n : Nat} (pl : Place l o.key n) (r : Right l) {p : Pr} (hn : l[n]? = some p) (hk : p.key = o.key) (hd : o.del = false) : l.take n ++ ⟨o.key, o.val⟩ :: l.drop (n + 1) = doOne l o := by
  unfold doOne newOf
  rw [pl.take, pl.dropSome r hn hk, hd]; simp
theorem Place.putNone {l : List Pr} {o : Opn} {n : Nat} (pl : Place l o.key n) (r : Right l) (hn : ∀ p, l[n]? = some p → p.key ≠ o.key) (hd : o.del = false) : l.take n ++ ⟨o.key, o.val⟩ :: l.drop n = doOne l o := by
  unfold doOne newOf
  rw [pl.take, pl.dropNone r hn, hd]; simp

/-! ### the reference's way -/

/-- what is put behind what is there: done: the operation is over -/
def goOne (o : Opn) : Bool → List Pr → List Pr
  | done, [] => if done then [] else [⟨o.key, o.val⟩]
  | done, p :: l => (if !done && !sLt p.key o.key then [⟨o.key, o.val⟩] else []) ++ ((if p.key = o.key then [] else [p]) ++ goOne o (done || !sLt p.key o.key) l)

theorem goOne_true (o : Opn) : ∀ l : List Pr, goOne o true l = l.filter fun p => !decide (p.key = o.key)
  | [] => rfl
  | p :: l => by
    rw [goOne, Bool.true_or, goOne_true o l, List.filter_cons]
    by_cases h : p.key = o.key <;> simp [h]
theorem fil_lo (k : ByteArray) (p : Pr) (l : List Pr) : (p :: l).filter (fun p => sLt p.key k) = (if sLt p.key k = true then [p] else []) ++ l.filter (fun p => sLt p.key k) := by
  rw [List.filter_cons]; split <;> simp_all
theorem fil_hi (k : ByteArray) (p : Pr) (l : List Pr) : (p :: l).filter (fun p => sLt k p.key) = (if sLt k p.key = true then [p] else []) ++ l.filter (fun p => sLt k p.key) := by
  rw [List.filter_cons]; split <;> simp_all
theorem fil_ne (k : ByteArray) (p : Pr) (l : List Pr) : (p :: l).filter (fun p => !decide (p.key = k)) = (if p.key = k then [] else [p]) ++ l.filter (fun p => !decide (p.key = k)) := by
  rw [List.filter_cons]; split <;> simp_all
theorem goOne_all (o : Opn) : ∀ (l : List Pr), (l.Pairwise fun p q => sLt p.key q.key = true) → goOne o false l = l.filter (fun p => sLt p.key o.key) ++ [⟨o.key, o.val⟩] ++ l.filter (fun p => sLt o.key p.key)
  | [], _ => rfl
  | p :: l, hp => by
    obtain ⟨h1, h2⟩ := List.pairwise_cons.1 hp
    rw [goOne, fil_lo, fil_hi]
    cases h3 : sLt p.key o.key with
    | true =>
      have hne : p.key ≠ o.key := sLt_ne h3
      simp only [Bool.not_true, Bool.and_false, Bool.false_eq_true, if_false, hne, Bool.or_false]
      rw [goOne_all o l h2, sLt_asymm h3]
      simp
    | false =>
      have h4 : ∀ q ∈ l, sLt o.key q.key = true := fun q hq => sLt_of_le_of_lt h3 (h1 q hq)
      have e1 : l.filter (fun p => sLt p.key o.key) = [] := List.filter_eq_nil_iff.2 fun q hq => by simp [sLt_asymm (h4 q hq)]
      have e2 : l.filter (fun p => sLt o.key p.key) = l := List.filter_eq_self.2 h4
      have e3 : l.filter (fun p => !decide (p.key = o.key)) = l := List.filter_eq_self.2 fun q hq => by
        have := sLt_ne (h4 q hq)
        simp; exact fun e => this e.symm
      simp only [Bool.not_false, Bool.and_true, if_true, Bool.or_true]
      rw [goOne_true, e3, e1, e2]
      by_cases h5 : p.key = o.key
      · rw [h5, sLt_irrefl]; simp
      · rw [sLt_of_not h3 h5]; simp [h5]
theorem goOne_eq {l : List Pr} (r : Right l) (o : Opn) : goOne o o.del l = doOne l o := by
  have hp := (Right.iff.1 r).2
  unfold doOne newOf
  cases hd : o.del with
  | false => rw [goOne_all o l hp]; simp
  | true =>
    rw [goOne_true]
    simp only [if_true, List.append_nil]
    clear r
    induction l with
    | nil => rfl
    | cons p l ih =>
      obtain ⟨h1, h2⟩ := List.pairwise_cons.1 hp
      rw [fil_lo, fil_hi, fil_ne]
      cases h3 : sLt p.key o.key with
      | true =>
        have hne : p.key ≠ o.key := sLt_ne h3
        rw [ih h2, sLt_asymm h3]
        simp [hne]
      | false =>
        have h4 : ∀ q ∈ l, sLt o.key q.key = true := fun q hq => sLt_of_le_of_lt h3 (h1 q hq)
        have e1 : l.filter (fun p => sLt p.key o.key) = [] := List.filter_eq_nil_iff.2 fun q hq => by simp [sLt_asymm (h4 q hq)]
        have e2 : l.filter (fun p => sLt o.key p.key) = l := List.filter_eq_self.2 h4
        have e3 : l.filter (fun p => !decide (p.key = o.key)) = l := List.filter_eq_self.2 fun q hq => by
          have := sLt_ne (h4 q hq)
          simp; exact fun e => this e.symm
        rw [e1, e2, e3]
        by_cases h5 : p.key = o.key
        · rw [h5, sLt_irrefl]; simp
        · rw [sLt_of_not h3 h5]; simp [h5]
end Go.Dn.W
