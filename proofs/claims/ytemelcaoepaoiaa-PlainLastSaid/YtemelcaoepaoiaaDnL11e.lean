/- The law of the last operations: done, they do what all do. -/
import Derived.Test.YtemelcaoepaoiaaDnL11b
import Derived.Test.YtemelcaoepaoiaaDnLast
set_option linter.unusedVariables false
namespace Go.Dn.W
open Go Go.Dn Go.Proofs

theorem opSum_insO (l : List Opn) (o : Opn) : opSum (insO l o) ≤ opSum l + opLen o := by
  have : opSum (l.filter fun p => sLt p.key o.key) + opSum (l.filter fun p => sLt o.key p.key) ≤ opSum l := by
    induction l with
    | nil => exact Nat.le_refl _
    | cons p l ih =>
      simp only [List.filter_cons]
      cases h1 : sLt p.key o.key with
      | true => rw [sLt_asymm h1]; simp only [if_true, Bool.false_eq_true, if_false, opSum]; omega
      | false =>
        cases h2 : sLt o.key p.key with
        | true => simp only [if_true, Bool.false_eq_true, if_false, opSum]; omega
        | false => simp only [Bool.false_eq_true, if_false, opSum]; omega
  unfold insO
  rw [opSum_append, opSum_append]
  simp only [opSum]
  omega
theorem opSum_pLast (ops : List Opn) : opSum (pLast ops) ≤ opSum ops := by
  refine snoc_ind (P := fun ops => opSum (pLast ops) ≤ opSum ops) (Nat.le_refl _) (fun l x ih => ?_) ops
  rw [pLast_snoc, opSum_append]
  have := opSum_insO (pLast l) x
  simp only [opSum]
  omega
theorem any_pLast {ops : List Opn} {f : Opn → Bool} (h : ops.any f = false) : (pLast ops).any f = false := by
  rw [List.any_eq_false] at h ⊢
  exact fun o ho => h o (pLast_mem ho)
theorem pBatch_pLast {ops : List Opn} (h : pBatch ops = 0) : pBatch (pLast ops) = 0 := by
  unfold pBatch at h ⊢
  have hs := opSum_pLast ops
  have hl := pLast_length ops
  have hne : ops ≠ [] → pLast ops ≠ [] := fun hn e => by
    obtain ⟨o, r, rfl⟩ := List.exists_cons_of_ne_nil hn
    obtain ⟨p, hp⟩ := lastOf_some (ops := o :: r) (k := o.key) ⟨o, by simp, rfl⟩
    have hk := (lastOf_key hp).1
    have := ((pLast_is (o :: r)).mem p).2 (by rw [hk]; exact hp)
    rw [e] at this; cases this
  split at h
  · cases h
  · rename_i h1
    split at h
    · cases h
    · rename_i h2
      simp only [not_or, Bool.not_eq_true] at h1 h2
      rw [if_neg, if_neg]
      · rintro (h' | h' | h')
        · omega
        · omega
        · rw [any_pLast h2.2.2] at h'; cases h'
      · rintro (h' | h')
        · exact hne (fun e => h1.1 (by rw [e]; rfl)) (List.eq_nil_of_length_eq_zero h')
        · rw [any_pLast h1.2] at h'; cases h'
theorem mem_doAll_last {ops : List Opn} : ∀ {l : List Pr} {p : Pr}, p ∈ doAll l ops ↔ (p ∈ l ∧ lastOf ops p.key = none) ∨ ∃ o, lastOf ops p.key = some o ∧ o.del = false ∧ p = ⟨o.key, o.val⟩ := by
  refine snoc_ind (P := fun ops => ∀ {l : List Pr} {p : Pr}, p ∈ doAll l ops ↔ (p ∈ l ∧ lastOf ops p.key = none) ∨ ∃ o, lastOf ops p.key = some o ∧ o.del = false ∧ p = ⟨o.key, o.val⟩) (fun {l p} => ?_) (fun r x ih {l p} => ?_) ops
  · constructor
    · intro h; exact .inl ⟨h, rfl⟩
    · rintro (⟨h, _⟩ | ⟨o, h, _⟩)
      · exact h
      · cases h
  · rw [doAll_snoc, mem_doOne, ih, lastOf_snoc]
    by_cases e : x.key = p.key
    · rw [if_pos e]
      constructor
      · rintro (⟨_, h⟩ | ⟨h1, h2⟩)
        · exact absurd e.symm h
        · exact .inr ⟨x, rfl, h1, h2⟩
      · rintro (⟨_, h⟩ | ⟨o, h, h1, h2⟩)
        · cases h
        · cases h; exact .inr ⟨h1, h2⟩
    · rw [if_neg e]
      constructor
      · rintro (⟨h, _⟩ | ⟨h1, h2⟩)
        · exact h
        · rw [h2] at e; exact absurd rfl e
      · intro h; exact .inl ⟨h, fun e' => e e'.symm⟩
theorem do_last {l : List Pr} {ops : List Opn} (he : pErr l ops = 0) : pErr l (pLast ops) = 0 ∧ pDo l ops = pDo l (pLast ops) := by
  obtain ⟨r, hb⟩ := pErr_zero he
  have he' : pErr l (pLast ops) = 0 := by unfold pErr; rw [if_pos r]; exact pBatch_pLast hb
  refine ⟨he', Right.ext pDo_right pDo_right fun p => ?_⟩
  unfold pDo
  rw [if_pos he, if_pos he', mem_doAll_last, mem_doAll_last, lastOf_pLast]

section
variable {h : Mem}
theorem law_PlainLast {l t : Sl} {L : List Pr} {O : List Opn} {Q : Bool → Mem → Prop} (a : PairsIn h l L) (b : OpsIn h t O) (q : ∀ h', Ext h.size h h' → Q true h') : wp_dunnagelaw11_PlainLast l t h Q := by
  have sa := a.size
  have sb := b.size
  refine ct_plain_Do a.at_ b.at_ (by omega) (by omega) b.ok fun s1 h3 x3 o1 => ct_awake11 fun h5 x5 => ?_
  have x05 := x3.after x5
  refine Br.f rfl (Br.mk (fun e => ct_awake11 fun h7 x7 => q h7 (x05.after x7)) fun e => ?_)
  have e0 : pErr L O = 0 := by simpa using e
  obtain ⟨r, eB⟩ := pErr_zero e0
  obtain ⟨hn, _⟩ := pBatch_zero eB
  obtain ⟨e1, e2⟩ := do_last e0
  have hdl := pDo_length (l := L) (ops := O)
  have hpl := pLast_length O
  refine ct_batch_Last (b.at_.ext x05) b.short (fun i o ho => Nat.le_trans (b.key o (List.mem_of_getElem? ho)) (by decide)) (by omega) fun s10 h11 x11 o10 => ?_
  have x511 := x5.after x11
  have x011 := x3.after x511
  refine ct_plain_Do (a.at_.ext x011) o10.ops (by omega) (by omega) (fun i o ho => ?_) fun s12 h14 x14 o12 => ?_
  · obtain ⟨j, hj⟩ := List.getElem?_of_mem (pLast_mem (List.mem_of_getElem? ho))
    exact b.ok j o hj
  refine Br.t (by rw [e1]; rfl) (ct_Pairs (o1.ext (x511.after x14)).pairs o12.pairs (by omega) fun h16 x16 => Br.t (by rw [decide_eq_true_eq]; exact e2) ?_)
  have xx := x14.after x16
  refine ct_plain_Check ((o1.ext x511).ext xx).pairs (by omega) (fun _ h' x' => q _ (x011.after (xx.after x'))) fun nr => absurd pDo_right nr
end
end Go.Dn.W
