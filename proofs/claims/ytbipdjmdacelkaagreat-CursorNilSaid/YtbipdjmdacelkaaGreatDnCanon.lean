/- A region that draws its order: one canonical order serves every order, if what only reads yields the same behind each operation that may come before it. -/
import Derived.Test.YtbipdjmdacelkaaGreatDnCore
namespace Go.Dn
open Go

section
variable (ops : Array Oper)

def dstOf (i : Nat) : Option Tmp := (ops[i]?).bind (·.dst)
/-- j waits for i, directly -/
def waits (j i : Nat) : Bool :=
  match ops[j]? with
  | some o => o.after.any fun e => Region.binds .any e && e.on == i
  | none => false
/-- the temporaries that operation i looks at -/
def looks (i : Nat) : List Tmp :=
  match ops[i]? with
  | some o => o.looksAt ops
  | none => []
/-- neither writes what the other looks at -/
def apartAt (i j : Nat) : Bool :=
  (match dstOf ops i with | some d => !(looks ops j).contains d | none => true) && (match dstOf ops j with | some d => !(looks ops i).contains d | none => true)
def readyIn (done : List (Nat × Bool)) (i : Nat) : Bool :=
  match ops[i]? with
  | some o => o.after.all fun e => !Region.binds .any e || done.any (·.1 == e.on)
  | none => false
def selfOk (i : Nat) : Bool := match dstOf ops i with | some d => !(looks ops i).contains d | none => true

def canonOk : List (Nat × Bool) → List (Nat × Bool) → Bool
  | [], done => (List.range ops.size).all fun i => done.any (·.1 == i)
  | (i, loud) :: cs, done =>
    decide (i < ops.size) && !(done.any (·.1 == i)) && readyIn ops done i && (done.all fun u => waits ops i u.1 || apartAt ops u.1 i) && selfOk ops i &&
    (!loud || ((List.range ops.size).all fun j => j == i || done.any (·.1 == j) || !readyIn ops done j)) &&
    canonOk cs ((i, loud) :: done)

/-- l waits for i, in so many steps of data at the most -/
def reach : Nat → Nat → Nat → Bool
  | 0, _, _ => false
  | d + 1, l, i =>
    match ops[l]? with
    | some o => o.after.any fun e => Region.binds .any e && (e.on == i || ((match e.ground with | .data => true | .chain => true | _ => false) && reach d e.on i))
    | none => false

/-- each temporary is written once at most; each operation waits for earlier ones; no select, no defer -/
def regionOk : Bool :=
  ((List.range ops.size).all fun i => (List.range ops.size).all fun j => i == j || (match dstOf ops i with | some d => dstOf ops j != some d | none => true)) &&
  ((List.range ops.size).all fun i => match ops[i]? with | some o => o.after.all fun e => !Region.binds .any e || decide (e.on < i) | none => true) &&
  (ops.all fun o => match o.op with | .select .. => false | .defer _ => false | _ => true)

variable (P : Program) (ro : Option Nat)

/-- the canonical order, with what is read anew behind each operation that may have come before -/
def CanW (K : Act → World → Prop) : List (Nat × Bool) → List (Nat × Value × Sem Next) → Act → World → Prop
  | [], _, a, w => K a w
  | (i, false) :: cs, hs, a, w =>
    match ops[i]? with
    | none => False
    | some o =>
      if Region.wanted o (yielded ops a.tmps) then ∃ v, (o.semAt ro a.eval).run P w = .ok (.value v) w ∧ CanW K cs ((i, v, o.semAt ro a.eval) :: hs) (a.put o.dst v) w
      else CanW K cs hs (a.put o.dst undef) w
  | (l, true) :: cs, hs, a, w =>
    OpW P ro ops l (fun a' w' => (∀ x ∈ hs, reach ops 8 l x.1 = false → x.2.2.run P w' = .ok (.value x.2.1) w') ∧ CanW K cs (hs.filter fun x => !reach ops 8 l x.1) a' w') a w
end

section proof
variable {ops : Array Oper} {P : Program} {ro : Option Nat} {K : Act → World → Prop}

/-- the frame, those of S having come up: each has written its value -/
structure ActIs (ops : Array Oper) (a0 : Act) (V : Nat → Value) (S : Nat → Prop) (a : Act) : Prop where
  size : a.tmps.size = a0.tmps.size
  wrote : ∀ j, S j → ∀ x, dstOf ops j = some x → x < a0.tmps.size → a.tmps[x]? = some (V j)
  rest : ∀ x, (∀ j, S j → dstOf ops j ≠ some x) → a.tmps[x]? = a0.tmps[x]?

theorem ActIs.ext {a0 : Act} {V : Nat → Value} {S : Nat → Prop} {a a' : Act} (h : ActIs ops a0 V S a) (h' : ActIs ops a0 V S a') (hd : a.defers = a'.defers) : a = a' := by
  have : a.tmps = a'.tmps := by
    apply Array.ext_getElem?
    intro x
    by_cases hx : ∃ j, S j ∧ dstOf ops j = some x
    · obtain ⟨j, hj, hd⟩ := hx
      by_cases hlt : x < a0.tmps.size
      · rw [h.wrote j hj x hd hlt, h'.wrote j hj x hd hlt]
      · rw [Array.getElem?_eq_none (by rw [h.size]; omega), Array.getElem?_eq_none (by rw [h'.size]; omega)]
    · have hn : ∀ j, S j → dstOf ops j ≠ some x := fun j hj hd => hx ⟨j, hj, hd⟩
      rw [h.rest x hn, h'.rest x hn]
  cases a; cases a'; simp_all

theorem put_tmps_ne {a : Act} {d : Option Tmp} {v : Value} {x : Nat} (h : d ≠ some x) : (a.put d v).tmps[x]? = a.tmps[x]? := by
  cases d with
  | none => rfl
  | some d =>
    have : d ≠ x := fun e => h (by rw [e])
    simp [Act.put, Array.getElem?_setIfInBounds_ne this]

theorem put_tmps_eq {a : Act} {v : Value} {x : Nat} (h : x < a.tmps.size) : (a.put (some x) v).tmps[x]? = some v := by
  simp [Act.put, h]

theorem put_size {a : Act} {d : Option Tmp} {v : Value} : (a.put d v).tmps.size = a.tmps.size := by
  cases d <;> simp [Act.put]
theorem put_defers' {a : Act} {d : Option Tmp} {v : Value} : (a.put d v).defers = a.defers := by cases d <;> rfl

/-- one more has come up -/
theorem ActIs.more {a0 : Act} {V : Nat → Value} {S : Nat → Prop} {a : Act} (h : ActIs ops a0 V S a) {i : Nat} (hi : ¬ S i) (v : Value)
    (huniq : ∀ j, S j → ∀ x, dstOf ops i = some x → dstOf ops j ≠ some x) (ds : List Deferred) :
    ActIs ops a0 (fun j => if j = i then v else V j) (fun j => S j ∨ j = i) ({ a with defers := ds }.put (dstOf ops i) v) where
  size := by rw [put_size]; exact h.size
  wrote := by
    intro j hj x hx hlt
    rcases hj with hj | rfl
    · have hne : j ≠ i := fun e => hi (e ▸ hj)
      rw [put_tmps_ne (fun e => huniq j hj x e hx), if_neg hne]
      exact h.wrote j hj x hx hlt
    · rw [hx, put_tmps_eq (by show x < a.tmps.size; rw [h.size]; exact hlt), if_pos rfl]
  rest := by
    intro x hx
    rw [put_tmps_ne (hx i (.inr rfl))]
    exact h.rest x fun j hj => hx j (.inl hj)

theorem ActIs.congr {a0 : Act} {V V' : Nat → Value} {S S' : Nat → Prop} {a : Act} (h : ActIs ops a0 V S a) (hs : ∀ j, S j ↔ S' j) (hv : ∀ j, S j → V j = V' j) : ActIs ops a0 V' S' a where
  size := h.size
  wrote := fun j hj x hx hlt => by rw [h.wrote j ((hs j).2 hj) x hx hlt, hv j ((hs j).2 hj)]
  rest := fun x hx => h.rest x fun j hj => hx j ((hs j).1 hj)

/-- two frames that agree on what an operation looks at -/
theorem semAt_agree {o : Oper} {a a' : Act} (hs : ∀ cs b, o.op ≠ .select cs b) (hd : ∀ c, o.op ≠ .defer c) (h : ∀ x ∈ o.looksAt ops, a.tmps[x]? = a'.tmps[x]?) :
    o.semAt ro a.eval = o.semAt ro a'.eval := by
  rw [Oper.semAt_eq _ _ _ hd, Oper.semAt_eq _ _ _ hd]
  refine execOp_congr o hs fun x hx => ?_
  cases x with
  | tmp t =>
    have : t ∈ o.looksAt ops := List.mem_append_left _ (List.mem_filterMap.2 ⟨.tmp t, by simpa using hx, rfl⟩)
    have := h t this
    simp only [Act.eval, Array.getD_eq_getD_getElem?, this]
  | _ => rfl

theorem wanted_agree {o : Oper} {a a' : Act} (h : ∀ x ∈ o.looksAt ops, a.tmps[x]? = a'.tmps[x]?) : Region.wanted o (yielded ops a.tmps) = Region.wanted o (yielded ops a'.tmps) := by
  unfold Region.wanted
  cases hg : o.guard with
  | none => rfl
  | some gw =>
    obtain ⟨g, want⟩ := gw
    have hy : yielded ops a.tmps g = yielded ops a'.tmps g := by
      unfold yielded
      cases ht : (ops[g]?).bind (·.dst) with
      | none => rfl
      | some t =>
        have : t ∈ o.looksAt ops := List.mem_append_right _ (by simp [hg, ht])
        simp only [Option.bind_some, h t this]
    simp only [hy]

structure RegionOk (ops : Array Oper) : Prop where
  uniq : ∀ i j x, i < ops.size → j < ops.size → dstOf ops i = some x → dstOf ops j = some x → i = j
  back : ∀ i o, ops[i]? = some o → ∀ e ∈ o.after, Region.binds .any e = true → e.on < i
  sel : ∀ (i : Nat) (o : Oper), ops[i]? = some o → (∀ cs b, o.op ≠ .select cs b) ∧ ∀ c, o.op ≠ .defer c

theorem regionOk_spec (h : regionOk ops = true) : RegionOk ops := by
  simp only [regionOk, Bool.and_eq_true, List.all_eq_true, List.mem_range, Bool.or_eq_true, beq_iff_eq] at h
  obtain ⟨⟨h1, h2⟩, h3⟩ := h
  refine ⟨?_, ?_, ?_⟩
  · intro i j x hi hj hdi hdj
    rcases h1 i hi j hj with e | e
    · exact e
    · rw [hdi] at e; simp [hdj] at e
  · intro i o ho e he hb
    have hi := (Array.getElem?_eq_some_iff.1 ho).1
    have := h2 i hi
    rw [ho] at this
    have := (Array.all_eq_true_iff_forall_mem.1 this) e he
    simpa [hb] using this
  · intro i o ho
    have := Array.all_eq_true_iff_forall_mem.1 h3 o (Array.mem_of_getElem? ho)
    constructor
    · intro cs b e; simp [e] at this
    · intro c e; simp [e] at this

/-- what has come up, by the canonical order: how any two of them stand to each other -/
def DoneOk (ops : Array Oper) (done : List (Nat × Bool)) : Prop :=
  done.Pairwise (fun j u => j.1 ≠ u.1 ∧ (waits ops j.1 u.1 || apartAt ops u.1 j.1) = true) ∧ (∀ x ∈ done, x.1 < ops.size ∧ selfOk ops x.1 = true)

structure CInv (ops : Array Oper) (P : Program) (ro : Option Nat) (a0 : Act) (done : List (Nat × Bool)) (hs : List (Nat × Value × Sem Next)) (V : Nat → Value) (La : Array Bool) (ta tc : Act) (w : World) : Prop where
  dok : DoneOk ops done
  lsize : La.size = ops.size
  sub : ∀ i, La.getD i false = true → ∃ b, (i, b) ∈ done
  loudIn : ∀ i, (i, true) ∈ done → La.getD i false = true
  closed : ∀ i j, La.getD i false = true → waits ops i j = true → La.getD j false = true
  aT : ActIs ops a0 V (fun i => La.getD i false = true) ta
  cT : ActIs ops a0 V (fun i => ∃ b, (i, b) ∈ done) tc
  defs : ta.defers = tc.defers
  held : ∀ i, (i, false) ∈ done → La.getD i false = false → ∃ (o : Oper) (ai : Act), ops[i]? = some o ∧
    (∀ x ∈ o.looksAt ops, (∀ j, j < ops.size → dstOf ops j = some x → waits ops i j = true → x < a0.tmps.size → ai.tmps[x]? = some (V j)) ∧
      ((∀ j, j < ops.size → dstOf ops j = some x → waits ops i j = false) → ai.tmps[x]? = a0.tmps[x]?)) ∧ ai.tmps.size = a0.tmps.size ∧
    ((Region.wanted o (yielded ops ai.tmps) = true ∧ (i, V i, o.semAt ro ai.eval) ∈ hs ∧ (o.semAt ro ai.eval).run P w = .ok (.value (V i)) w) ∨
     (Region.wanted o (yielded ops ai.tmps) = false ∧ V i = undef))

theorem waits_iff {j i : Nat} : waits ops j i = true ↔ ∃ o, ops[j]? = some o ∧ ∃ e ∈ o.after, Region.binds .any e = true ∧ e.on = i := by
  unfold waits
  cases ops[j]? with
  | none => simp
  | some o =>
    constructor
    · intro h
      obtain ⟨e, he, hb⟩ := Array.any_eq_true'.1 h
      simp only [Bool.and_eq_true, beq_iff_eq] at hb
      exact ⟨o, rfl, e, he, hb.1, hb.2⟩
    · rintro ⟨o', ho', e, he, hb, hon⟩
      cases ho'
      exact Array.any_eq_true'.2 ⟨e, he, by simp [hb, hon]⟩

theorem readyIn_iff {done : List (Nat × Bool)} {i : Nat} (hi : i < ops.size) : readyIn ops done i = true ↔ ∀ j, waits ops i j = true → ∃ b, (j, b) ∈ done := by
  unfold readyIn
  have ho : ops[i]? = some ops[i] := Array.getElem?_eq_getElem hi
  rw [ho]
  simp only [Array.all_eq_true_iff_forall_mem, Bool.or_eq_true, Bool.not_eq_true', List.any_eq_true, beq_iff_eq, Prod.exists]
  constructor
  · intro h j hj
    obtain ⟨o, ho', e, he, hb, rfl⟩ := waits_iff.1 hj
    rw [ho] at ho'; cases ho'
    rcases h e he with h | ⟨x, b, hm, rfl⟩
    · rw [hb] at h; cases h
    · exact ⟨b, hm⟩
  · intro h e he
    by_cases hb : Region.binds .any e = true
    · obtain ⟨b, hm⟩ := h e.on (waits_iff.2 ⟨_, ho, e, he, hb, rfl⟩)
      exact .inr ⟨e.on, b, hm, rfl⟩
    · exact .inl (by simpa using hb)

theorem ready_iff {La : Array Bool} (hs : La.size = ops.size) {i : Nat} : i ∈ Region.ready .any ops La ↔ i < ops.size ∧ La.getD i false = false ∧ ∀ j, waits ops i j = true → La.getD j false = true := by
  rw [mem_ready]
  constructor
  · rintro ⟨h0, o, ho, h⟩
    have hi := (Array.getElem?_eq_some_iff.1 ho).1
    refine ⟨hi, ?_, ?_⟩
    · have : i < La.size := by omega
      simp [this] at h0 ⊢; exact h0
    · intro j hj
      obtain ⟨o', ho', e, he, hb, rfl⟩ := waits_iff.1 hj
      rw [ho] at ho'; cases ho'
      exact h e he hb
  · rintro ⟨hi, h0, h⟩
    have ho : ops[i]? = some ops[i] := Array.getElem?_eq_getElem hi
    refine ⟨?_, _, ho, fun e he hb => h _ (waits_iff.2 ⟨_, ho, e, he, hb, rfl⟩)⟩
    have : i < La.size := by omega
    simp [this] at h0 ⊢; exact h0

theorem reach_listed {La : Array Bool} (hc : ∀ i j, La.getD i false = true → waits ops i j = true → La.getD j false = true) :
    ∀ (d l : Nat), (∀ j, waits ops l j = true → La.getD j false = true) → ∀ {i : Nat}, reach ops d l i = true → La.getD i false = true
  | 0, _, _, _, h => by cases h
  | d + 1, l, hp, i, h => by
    unfold reach at h
    cases ho : ops[l]? with
    | none => rw [ho] at h; cases h
    | some o =>
      rw [ho] at h
      obtain ⟨e, he, hb⟩ := Array.any_eq_true'.1 h
      simp only [Bool.and_eq_true, Bool.or_eq_true, beq_iff_eq] at hb
      have hl := hp e.on (waits_iff.2 ⟨o, ho, e, he, hb.1, rfl⟩)
      rcases hb.2 with hb | hb
      · rw [← hb]; exact hl
      · exact reach_listed hc d e.on (fun j hj => hc _ j hl hj) hb.2

theorem apart_dst {i j : Nat} {x : Tmp} (h : apartAt ops i j = true) (hx : dstOf ops i = some x) : x ∉ looks ops j := by
  simp only [apartAt, Bool.and_eq_true] at h
  have := h.1
  rw [hx] at this
  simpa using this
theorem apart_dst' {i j : Nat} {x : Tmp} (h : apartAt ops i j = true) (hx : dstOf ops j = some x) : x ∉ looks ops i := by
  simp only [apartAt, Bool.and_eq_true] at h
  have := h.2
  rw [hx] at this
  simpa using this

theorem setL {La : Array Bool} {i j : Nat} (hi : i < La.size) : (La.setIfInBounds i true).getD j false = true ↔ La.getD j false = true ∨ j = i := by
  by_cases e : j = i
  · subst e; simp [hi]
  · have : i ≠ j := fun h => e h.symm
    simp only [Array.getD_eq_getD_getElem?, Array.getElem?_setIfInBounds_ne this, e, or_false]

theorem setL_false {La : Array Bool} {i j : Nat} (hi : i < La.size) (h : (La.setIfInBounds i true).getD j false = false) : La.getD j false = false ∧ j ≠ i := by
  constructor
  · cases hj : La.getD j false with
    | false => rfl
    | true => rw [(setL hi).2 (.inl hj)] at h; cases h
  · rintro rfl
    rw [(setL hi).2 (.inr rfl)] at h; cases h

/-- two of what has come up by the canonical order -/
theorem DoneOk.pair {done : List (Nat × Bool)} (h : DoneOk ops done) {i j : Nat} {b c : Bool} (hi : (i, b) ∈ done) (hj : (j, c) ∈ done) (hne : i ≠ j) :
    (waits ops i j || apartAt ops j i) = true ∨ (waits ops j i || apartAt ops i j) = true := by
  have key : ∀ (l : List (Nat × Bool)), l.Pairwise (fun j u => j.1 ≠ u.1 ∧ (waits ops j.1 u.1 || apartAt ops u.1 j.1) = true) → (i, b) ∈ l → (j, c) ∈ l →
      (waits ops i j || apartAt ops j i) = true ∨ (waits ops j i || apartAt ops i j) = true := by
    intro l
    induction l with
    | nil => intro _ h; cases h
    | cons x l ih =>
      intro hp h1 h2
      rw [List.pairwise_cons] at hp
      rcases List.mem_cons.1 h1 with e1 | h1
      · rcases List.mem_cons.1 h2 with e2 | h2
        · rw [← e1] at e2; exact absurd (congrArg Prod.fst e2).symm hne
        · left; have := (hp.1 _ h2).2; rw [← e1] at this; exact this
      · rcases List.mem_cons.1 h2 with e2 | h2
        · right; have := (hp.1 _ h1).2; rw [← e2] at this; exact this
        · exact ih hp.2 h1 h2
  exact key done h.1 hi hj

theorem DoneOk.one {done : List (Nat × Bool)} (h : DoneOk ops done) {i : Nat} {b c : Bool} (hi : (i, b) ∈ done) (hj : (i, c) ∈ done) : b = c := by
  have key : ∀ (l : List (Nat × Bool)), l.Pairwise (fun j u => j.1 ≠ u.1 ∧ (waits ops j.1 u.1 || apartAt ops u.1 j.1) = true) → (i, b) ∈ l → (i, c) ∈ l → b = c := by
    intro l
    induction l with
    | nil => intro _ h; cases h
    | cons x l ih =>
      intro hp h1 h2
      rw [List.pairwise_cons] at hp
      rcases List.mem_cons.1 h1 with e1 | h1
      · rcases List.mem_cons.1 h2 with e2 | h2
        · rw [← e1] at e2; exact (congrArg Prod.snd e2).symm
        · exact absurd rfl (by have := (hp.1 _ h2).1; rw [← e1] at this; exact this)
      · rcases List.mem_cons.1 h2 with e2 | h2
        · exact absurd rfl (by have := (hp.1 _ h1).1; rw [← e2] at this; exact this)
        · exact ih hp.2 h1 h2
  exact key done h.1 hi hj

theorem looks_eq {i : Nat} {o : Oper} (ho : ops[i]? = some o) : looks ops i = o.looksAt ops := by simp [looks, ho]
theorem dstOf_eq {i : Nat} {o : Oper} (ho : ops[i]? = some o) : dstOf ops i = o.dst := by simp [dstOf, ho]
theorem dstOf_lt {i : Nat} {x : Tmp} (h : dstOf ops i = some x) : i < ops.size := by
  rcases Nat.lt_or_ge i ops.size with hlt | hge
  · exact hlt
  · simp [dstOf, Array.getElem?_eq_none hge] at h

/-- THE VIEW: an operation that may come up now sees, in the frame as it is, what it saw by the canonical order. -/
theorem CInv.view {a0 : Act} {done : List (Nat × Bool)} {hs : List (Nat × Value × Sem Next)} {V : Nat → Value} {La : Array Bool} {ta tc : Act} {w : World}
    (R : RegionOk ops) (I : CInv ops P ro a0 done hs V La ta tc w) {i : Nat} (hd : (i, false) ∈ done) (hr : i ∈ Region.ready .any ops La) {o : Oper} (ho : ops[i]? = some o) {ai : Act}
    (hv : ∀ x ∈ o.looksAt ops, (∀ j, j < ops.size → dstOf ops j = some x → waits ops i j = true → x < a0.tmps.size → ai.tmps[x]? = some (V j)) ∧
      ((∀ j, j < ops.size → dstOf ops j = some x → waits ops i j = false) → ai.tmps[x]? = a0.tmps[x]?)) (hsz : ai.tmps.size = a0.tmps.size) :
    ∀ x ∈ o.looksAt ops, ta.tmps[x]? = ai.tmps[x]? := by
  obtain ⟨hi, h0, hp⟩ := (ready_iff I.lsize).1 hr
  intro x hx
  obtain ⟨v1, v2⟩ := hv x hx
  by_cases hw : ∃ j, dstOf ops j = some x
  · obtain ⟨j, hj⟩ := hw
    have hjl := dstOf_lt hj
    by_cases hwt : waits ops i j = true
    · by_cases hlt : x < a0.tmps.size
      · rw [v1 j hjl hj hwt hlt, I.aT.wrote j (hp j hwt) x hj hlt]
      · rw [Array.getElem?_eq_none (by rw [I.aT.size]; exact Nat.le_of_not_lt hlt), Array.getElem?_eq_none (by rw [hsz]; exact Nat.le_of_not_lt hlt)]
    · have hwf : waits ops i j = false := by simpa using hwt
      have hjn : La.getD j false = false := by
        cases hj' : La.getD j false with
        | false => rfl
        | true =>
          exfalso
          obtain ⟨b, hjd⟩ := I.sub j hj'
          by_cases hij : i = j
          · subst hij; rw [hj'] at h0; cases h0
          · rcases I.dok.pair hd hjd hij with h | h
            · rw [hwf, Bool.false_or] at h
              exact apart_dst h hj (by rw [looks_eq ho]; exact hx)
            · rcases Bool.or_eq_true _ _ ▸ h with h | h
              · have := I.closed j i hj' h
                rw [h0] at this; cases this
              · exact apart_dst' h hj (by rw [looks_eq ho]; exact hx)
      rw [v2 fun j' hjl' hj'' => by rw [R.uniq j' j x hjl' hjl hj'' hj]; exact hwf]
      refine I.aT.rest x fun j' hS hj'' => ?_
      have := R.uniq j' j x (dstOf_lt hj'') hjl hj'' hj
      subst this
      rw [hjn] at hS; cases hS
  · have hn : ∀ j, dstOf ops j ≠ some x := fun j hj => hw ⟨j, hj⟩
    rw [v2 fun j _ hj => absurd hj (hn j)]
    exact I.aT.rest x fun j _ hj => hn j hj

/-- a quiet one comes up, by the canonical order -/
theorem CInv.quiet {a0 : Act} {done : List (Nat × Bool)} {hs : List (Nat × Value × Sem Next)} {V : Nat → Value} {La : Array Bool} {ta tc : Act} {w : World}
    (R : RegionOk ops) (I : CInv ops P ro a0 done hs V La ta tc w) {i : Nat} (hi : i < ops.size) (hnd : ∀ b, (i, b) ∉ done) (hrd : readyIn ops done i = true)
    (hpair : ∀ u ∈ done, (waits ops i u.1 || apartAt ops u.1 i) = true) (hself : selfOk ops i = true) {o : Oper} (ho : ops[i]? = some o) {v : Value} {hs' : List (Nat × Value × Sem Next)} (hsub : ∀ x ∈ hs, x ∈ hs')
    (hy : (Region.wanted o (yielded ops tc.tmps) = true ∧ (i, v, o.semAt ro tc.eval) ∈ hs' ∧ (o.semAt ro tc.eval).run P w = .ok (.value v) w) ∨ (Region.wanted o (yielded ops tc.tmps) = false ∧ v = undef)) :
    CInv ops P ro a0 ((i, false) :: done) hs' (fun j => if j = i then v else V j) La ta (tc.put o.dst v) w := by
  have hLi : La.getD i false = false := by
    cases h : La.getD i false with
    | false => rfl
    | true => obtain ⟨b, hb⟩ := I.sub i h; exact absurd hb (hnd b)
  refine ⟨⟨?_, ?_⟩, I.lsize, ?_, ?_, I.closed, ?_, ?_, ?_, ?_⟩
  · rw [List.pairwise_cons]
    exact ⟨fun u hu => ⟨fun e => hnd u.2 (by have e' : i = u.1 := e; rw [e']; exact hu), hpair u hu⟩, I.dok.1⟩
  · intro x hx
    rcases List.mem_cons.1 hx with rfl | hx
    · exact ⟨hi, hself⟩
    · exact I.dok.2 x hx
  · intro j hj
    obtain ⟨b, hb⟩ := I.sub j hj
    exact ⟨b, List.mem_cons_of_mem _ hb⟩
  · intro j hj
    rcases List.mem_cons.1 hj with e | hj
    · cases e
    · exact I.loudIn j hj
  · refine I.aT.congr (fun _ => Iff.rfl) fun j hj => ?_
    rw [if_neg]
    rintro rfl; rw [hLi] at hj; cases hj
  · have := I.cT.more (i := i) (fun ⟨b, hb⟩ => hnd b hb) v (fun j hj x hx hjx => by
      obtain ⟨b, hb⟩ := hj
      have := R.uniq i j x hi (I.dok.2 _ hb).1 hx hjx
      subst this; exact hnd b hb) tc.defers
    rw [dstOf_eq ho] at this
    refine this.congr (fun j => ?_) fun _ _ => rfl
    constructor
    · rintro (⟨b, hb⟩ | rfl)
      · exact ⟨b, List.mem_cons_of_mem _ hb⟩
      · exact ⟨false, List.mem_cons_self ..⟩
    · rintro ⟨b, hb⟩
      rcases List.mem_cons.1 hb with e | hb
      · right; exact congrArg Prod.fst e
      · left; exact ⟨b, hb⟩
  · rw [put_defers']; exact I.defs
  · intro j hj hjl
    by_cases hji : j = i
    · subst hji
      refine ⟨o, tc, ho, fun x hx => ⟨fun k hk hkx hw hlt => ?_, fun hn => ?_⟩, I.cT.size, ?_⟩
      · obtain ⟨b, hb⟩ := (readyIn_iff hi).1 hrd k hw
        rw [if_neg (fun e => hnd b (by rw [← e]; exact hb))]
        exact I.cT.wrote k ⟨b, hb⟩ x hkx hlt
      · refine I.cT.rest x fun k ⟨b, hb⟩ hkx => ?_
        have h1 := hn k (I.dok.2 _ hb).1 hkx
        have h2 := hpair (k, b) hb
        rw [h1, Bool.false_or] at h2
        exact apart_dst h2 hkx (by rw [looks_eq ho]; exact hx)
      · rw [if_pos rfl]; exact hy
    · have hjd : (j, false) ∈ done := by
        rcases List.mem_cons.1 hj with e | hj
        · exact absurd (congrArg Prod.fst e) hji
        · exact hj
      obtain ⟨o', ai, ho', hv, hsz, hh⟩ := I.held j hjd hjl
      refine ⟨o', ai, ho', fun x hx => ⟨fun k hk hkx hw hlt => ?_, (hv x hx).2⟩, hsz, ?_⟩
      · have hki : k ≠ i := by
          rintro rfl
          have hjn : j ≠ k := hji
          have := hpair (j, false) hjd
          -- i waits for j or they are apart; but j waits for i: then i stood among what had come up ahead of j
          rcases Bool.or_eq_true _ _ ▸ this with h | h
          · have a := R.back k o ho
            obtain ⟨o1, ho1, e1, he1, hb1, hon1⟩ := waits_iff.1 h
            obtain ⟨o2, ho2, e2, he2, hb2, hon2⟩ := waits_iff.1 hw
            have l1 := R.back k o1 ho1 e1 he1 hb1
            have l2 := R.back j o2 ho2 e2 he2 hb2
            simp only at hon1
            omega
          · exact apart_dst' h hkx (by rw [looks_eq ho']; exact hx)
        rw [if_neg hki]
        exact (hv x hx).1 k hk hkx hw hlt
      · rw [if_neg hji]
        rcases hh with ⟨h1, h2, h3⟩ | h
        · exact .inl ⟨h1, hsub _ h2, h3⟩
        · exact .inr h

/-- the canonical order's check, taken apart -/
theorem canonOk_cons {i : Nat} {loud : Bool} {cs done : List (Nat × Bool)} (h : canonOk ops ((i, loud) :: cs) done = true) :
    i < ops.size ∧ (∀ b, (i, b) ∉ done) ∧ readyIn ops done i = true ∧ (∀ u ∈ done, (waits ops i u.1 || apartAt ops u.1 i) = true) ∧ selfOk ops i = true ∧
    (loud = true → ∀ j, j < ops.size → j ≠ i → (∀ b, (j, b) ∉ done) → readyIn ops done j = false) ∧ canonOk ops cs ((i, loud) :: done) = true := by
  simp only [canonOk, Bool.and_eq_true, decide_eq_true_eq, Bool.not_eq_true', List.all_eq_true] at h
  obtain ⟨⟨⟨⟨⟨⟨h1, h2⟩, h3⟩, h4⟩, h5⟩, h6⟩, h7⟩ := h
  refine ⟨h1, ?_, h3, h4, h5, ?_, h7⟩
  · intro b hb
    have : (done.any fun x => x.1 == i) = true := List.any_eq_true.2 ⟨_, hb, by simp⟩
    rw [h2] at this; cases this
  · intro hl j hj hne hnd
    subst hl
    simp only [Bool.not_true, Bool.false_or, List.all_eq_true, List.mem_range, Bool.or_eq_true, beq_iff_eq, Bool.not_eq_true'] at h6
    rcases h6 j hj with (h | h) | h
    · exact absurd h hne
    · obtain ⟨x, hx, he⟩ := List.any_eq_true.1 h
      simp only [beq_iff_eq] at he
      exact absurd (by rw [← he]; exact hx) (hnd x.2)
    · exact h

def unlisted (La : Array Bool) : Nat := La.toList.countP (fun b => !b)

theorem unlisted_set {La : Array Bool} {i : Nat} (hi : i < La.size) (h : La.getD i false = false) : unlisted (La.setIfInBounds i true) + 1 = unlisted La := by
  have hi' : i < La.toList.length := by simpa using hi
  have hv : La.toList[i] = false := by
    simp [hi] at h
    simpa using h
  unfold unlisted
  rw [Array.toList_setIfInBounds, List.countP_set hi', hv]
  have : 0 < La.toList.countP (fun b => !b) := List.countP_pos_iff.2 ⟨_, List.getElem_mem hi', by rw [hv]; rfl⟩
  simp only [Bool.not_false, Bool.not_true, if_true, Bool.false_eq_true, if_false]
  omega

theorem unlisted_zero {La : Array Bool} (h : unlisted La = 0) {i : Nat} (hi : i < La.size) : La.getD i false = true := by
  unfold unlisted at h
  have hi' : i < La.toList.length := by simpa using hi
  have := List.countP_eq_zero.1 h _ (List.getElem_mem hi')
  simp [hi]
  simpa using this

theorem all_listed {La : Array Bool} (R : RegionOk ops) (hs : La.size = ops.size) (hr : Region.ready .any ops La = []) : ∀ i, i < ops.size → La.getD i false = true := by
  intro i
  induction i using Nat.strongRecOn with
  | _ i ih =>
    intro hi
    cases h : La.getD i false with
    | true => rfl
    | false =>
      have : i ∈ Region.ready .any ops La := by
        rw [ready_iff hs]
        refine ⟨hi, h, fun j hj => ?_⟩
        obtain ⟨o, ho, e, he, hb, rfl⟩ := waits_iff.1 hj
        have := R.back i o ho e he hb
        exact ih _ this (by omega)
      rw [hr] at this; cases this

/-- all has come up: the frames are one -/
theorem CInv.over {a0 : Act} {done : List (Nat × Bool)} {hs : List (Nat × Value × Sem Next)} {V : Nat → Value} {La : Array Bool} {ta tc : Act} {w : World}
    (I : CInv ops P ro a0 done hs V La ta tc w) (h : ∀ i, i < ops.size → La.getD i false = true) : ta = tc := by
  refine I.aT.ext (I.cT.congr (fun j => ?_) fun _ _ => rfl) I.defs
  constructor
  · rintro ⟨b, hb⟩; exact h j (I.dok.2 _ hb).1
  · intro hj; exact I.sub j hj

theorem canon_sound (R : RegionOk ops) (a0 : Act) : ∀ (fuel : Nat) (cs done : List (Nat × Bool)) (hs : List (Nat × Value × Sem Next)) (V : Nat → Value) (La : Array Bool) (ta tc : Act) (w : World),
    canonOk ops cs done = true → CanW ops P ro K cs hs tc w → CInv ops P ro a0 done hs V La ta tc w → unlisted La = fuel → AnyW P ro ops K fuel La ta w := by
  intro fuel
  induction fuel with
  | zero =>
    intro cs
    induction cs with
    | nil =>
      intro done hs V La ta tc w _ hC I hu
      rw [I.over fun i hi => unlisted_zero hu (by rw [I.lsize]; exact hi)]
      exact hC
    | cons c cs _ =>
      intro done hs V La ta tc w hk _ I hu
      obtain ⟨i, loud⟩ := c
      obtain ⟨hi, hnd, _⟩ := canonOk_cons hk
      obtain ⟨b, hb⟩ := I.sub i (unlisted_zero hu (by rw [I.lsize]; exact hi))
      exact absurd hb (hnd b)
  | succ fuel ih =>
    intro cs
    induction cs with
    | nil =>
      intro done hs V La ta tc w hk hC I hu
      have hall : ∀ i, i < ops.size → ∃ b, (i, b) ∈ done := by
        intro i hi
        simp only [canonOk, List.all_eq_true, List.mem_range] at hk
        obtain ⟨x, hx, he⟩ := List.any_eq_true.1 (hk i hi)
        simp only [beq_iff_eq] at he
        exact ⟨x.2, by rw [← he]; exact hx⟩
      refine ⟨fun hr => ?_, fun i hr => ?_⟩
      · rw [I.over (all_listed R I.lsize hr)]; exact hC
      · exact step_held R a0 ih hk hC I hu hr (hall i ((ready_iff I.lsize).1 hr).1)
    | cons c cs ihc =>
      intro done hs V La ta tc w hk hC I hu
      obtain ⟨l, loud⟩ := c
      obtain ⟨hl, hnd, hrd, hpair, hself, hun, hk'⟩ := canonOk_cons hk
      have ho : ops[l]? = some ops[l] := Array.getElem?_eq_getElem hl
      cases loud with
      | false =>
        simp only [CanW, ho] at hC
        by_cases hw : Region.wanted ops[l] (yielded ops tc.tmps) = true
        · rw [if_pos hw] at hC
          obtain ⟨v, hy, hC⟩ := hC
          exact ihc _ _ _ La ta _ w hk' hC (I.quiet R hl hnd hrd hpair hself ho (fun x hx => List.mem_cons_of_mem _ hx) (.inl ⟨hw, List.mem_cons_self .., hy⟩)) hu
        · rw [if_neg hw] at hC
          exact ihc _ _ _ La ta _ w hk' hC (I.quiet R hl hnd hrd hpair hself ho (fun x hx => hx) (.inr ⟨by simpa using hw, rfl⟩)) hu
      | true =>
        refine ⟨fun hr => ?_, fun i hr => ?_⟩
        · obtain ⟨b, hb⟩ := I.sub l (all_listed R I.lsize hr l hl)
          exact absurd hb (hnd b)
        · by_cases hid : ∃ b, (i, b) ∈ done
          · exact step_held R a0 ih hk hC I hu hr hid
          · have hid' : ∀ b, (i, b) ∉ done := fun b hb => hid ⟨b, hb⟩
            obtain ⟨hi, hLi, hpre⟩ := (ready_iff I.lsize).1 hr
            have hil : i = l := by
              apply Classical.byContradiction
              intro hne
              have h1 := hun rfl i hi hne hid'
              have h2 := (readyIn_iff (done := done) hi).2 fun j hj => I.sub j (hpre j hj)
              rw [h1] at h2; cases h2
            subst hil
            exact step_loud R a0 ih hk hC I hu hr
where
  step_held (R : RegionOk ops) (a0 : Act) {fuel : Nat}
      (ih : ∀ (cs done : List (Nat × Bool)) (hs : List (Nat × Value × Sem Next)) (V : Nat → Value) (La : Array Bool) (ta tc : Act) (w : World),
        canonOk ops cs done = true → CanW ops P ro K cs hs tc w → CInv ops P ro a0 done hs V La ta tc w → unlisted La = fuel → AnyW P ro ops K fuel La ta w)
      {cs done : List (Nat × Bool)} {hs : List (Nat × Value × Sem Next)} {V : Nat → Value} {La : Array Bool} {ta tc : Act} {w : World}
      (hk : canonOk ops cs done = true) (hC : CanW ops P ro K cs hs tc w) (I : CInv ops P ro a0 done hs V La ta tc w) (hu : unlisted La = fuel + 1)
      {i : Nat} (hr : i ∈ Region.ready .any ops La) (hid : ∃ b, (i, b) ∈ done) : OpW P ro ops i (AnyW P ro ops K fuel (La.setIfInBounds i true)) ta w := by
    obtain ⟨hi, hLi, hpre⟩ := (ready_iff I.lsize).1 hr
    obtain ⟨b, hb⟩ := hid
    have hbf : b = false := by
      cases b with
      | false => rfl
      | true => have := I.loudIn i hb; rw [hLi] at this; cases this
    subst hbf
    obtain ⟨o, ai, ho, hv, hsz, hh⟩ := I.held i hb hLi
    have hview := I.view R hb hr ho hv hsz
    have hiL : i < La.size := by rw [I.lsize]; exact hi
    obtain ⟨hsel, hdef⟩ := R.sel i o ho
    -- the state behind it
    have I' : CInv ops P ro a0 done hs V (La.setIfInBounds i true) (ta.put o.dst (V i)) tc w := by
      refine ⟨I.dok, by simp [I.lsize], ?_, ?_, ?_, ?_, I.cT, ?_, ?_⟩
      · intro j hj
        rcases (setL hiL).1 hj with hj | rfl
        · exact I.sub j hj
        · exact ⟨_, hb⟩
      · intro j hj; exact (setL hiL).2 (.inl (I.loudIn j hj))
      · intro j k hj hw
        rcases (setL hiL).1 hj with hj | rfl
        · exact (setL hiL).2 (.inl (I.closed j k hj hw))
        · exact (setL hiL).2 (.inl (hpre k hw))
      · have := I.aT.more (i := i) (fun h => by rw [hLi] at h; cases h) (V i) (fun j hj x hx hjx => by
          obtain ⟨c, hc⟩ := I.sub j hj
          have := R.uniq i j x hi (I.dok.2 _ hc).1 hx hjx
          subst this; rw [hLi] at hj; cases hj) ta.defers
        rw [dstOf_eq ho] at this
        refine this.congr (fun j => (setL hiL).symm) fun j _ => ?_
        by_cases h : j = i
        · rw [if_pos h, h]
        · rw [if_neg h]
      · rw [put_defers']; exact I.defs
      · intro j hj hjl
        obtain ⟨h1, h2⟩ := setL_false hiL hjl
        exact I.held j hj h1
    have hu' : unlisted (La.setIfInBounds i true) = fuel := by have := unlisted_set hiL hLi; omega
    unfold OpW
    simp only [ho]
    rw [wanted_agree hview, semAt_agree hsel hdef hview]
    rcases hh with ⟨hw, _, hy⟩ | ⟨hw, hv0⟩
    · rw [if_pos hw, hy]
      exact ih cs done hs V _ _ tc w hk hC I' hu'
    · rw [if_neg (by rw [hw]; simp)]
      rw [hv0] at I'
      exact ih cs done hs V _ _ tc w hk hC I' hu'
  step_loud (R : RegionOk ops) (a0 : Act) {fuel : Nat}
      (ih : ∀ (cs done : List (Nat × Bool)) (hs : List (Nat × Value × Sem Next)) (V : Nat → Value) (La : Array Bool) (ta tc : Act) (w : World),
        canonOk ops cs done = true → CanW ops P ro K cs hs tc w → CInv ops P ro a0 done hs V La ta tc w → unlisted La = fuel → AnyW P ro ops K fuel La ta w)
      {l : Nat} {cs done : List (Nat × Bool)} {hs : List (Nat × Value × Sem Next)} {V : Nat → Value} {La : Array Bool} {ta tc : Act} {w : World}
      (hk : canonOk ops ((l, true) :: cs) done = true) (hC : CanW ops P ro K ((l, true) :: cs) hs tc w) (I : CInv ops P ro a0 done hs V La ta tc w) (hu : unlisted La = fuel + 1)
      (hr : l ∈ Region.ready .any ops La) : OpW P ro ops l (AnyW P ro ops K fuel (La.setIfInBounds l true)) ta w := by
    obtain ⟨hl, hnd, hrd, hpair, hself, hun, hk'⟩ := canonOk_cons hk
    obtain ⟨_, hLl, hpre⟩ := (ready_iff I.lsize).1 hr
    have hlL : l < La.size := by rw [I.lsize]; exact hl
    have ho : ops[l]? = some ops[l] := Array.getElem?_eq_getElem hl
    obtain ⟨hsel, hdef⟩ := R.sel l _ ho
    have hview : ∀ x ∈ ops[l].looksAt ops, ta.tmps[x]? = tc.tmps[x]? := by
      intro x hx
      by_cases hw : ∃ j, (∃ b, (j, b) ∈ done) ∧ dstOf ops j = some x
      · obtain ⟨j, ⟨b, hj⟩, hjx⟩ := hw
        by_cases hjL : La.getD j false = true
        · by_cases hlt : x < a0.tmps.size
          · rw [I.aT.wrote j hjL x hjx hlt, I.cT.wrote j ⟨b, hj⟩ x hjx hlt]
          · rw [Array.getElem?_eq_none (by rw [I.aT.size]; exact Nat.le_of_not_lt hlt), Array.getElem?_eq_none (by rw [I.cT.size]; exact Nat.le_of_not_lt hlt)]
        · exfalso
          rcases Bool.or_eq_true _ _ ▸ hpair _ hj with h | h
          · exact hjL (hpre j h)
          · exact apart_dst h hjx (by rw [looks_eq ho]; exact hx)
      · have hn : ∀ j, (∃ b, (j, b) ∈ done) → dstOf ops j ≠ some x := fun j hj hd => hw ⟨j, hj, hd⟩
        rw [I.cT.rest x hn, I.aT.rest x fun j hj => hn j (I.sub j hj)]
    -- the state behind it
    have next : ∀ (v : Value) (d : List Deferred) (w' : World) (hs' : List (Nat × Value × Sem Next)),
        (∀ x ∈ hs, reach ops 8 l x.1 = false → x ∈ hs' ∧ x.2.2.run P w' = .ok (.value x.2.1) w') →
        CInv ops P ro a0 ((l, true) :: done) hs' (fun j => if j = l then v else V j) (La.setIfInBounds l true) ({ ta with defers := d }.put ops[l].dst v) ({ tc with defers := d }.put ops[l].dst v) w' := by
      intro v d w' hs' hre
      refine ⟨⟨?_, ?_⟩, by simp [I.lsize], ?_, ?_, ?_, ?_, ?_, ?_, ?_⟩
      · rw [List.pairwise_cons]
        exact ⟨fun u hu => ⟨fun e => hnd u.2 (by have e' : l = u.1 := e; rw [e']; exact hu), hpair u hu⟩, I.dok.1⟩
      · intro x hx
        rcases List.mem_cons.1 hx with rfl | hx
        · exact ⟨hl, hself⟩
        · exact I.dok.2 x hx
      · intro j hj
        rcases (setL hlL).1 hj with hj | rfl
        · obtain ⟨b, hb⟩ := I.sub j hj
          exact ⟨b, List.mem_cons_of_mem _ hb⟩
        · exact ⟨true, List.mem_cons_self ..⟩
      · intro j hj
        rcases List.mem_cons.1 hj with e | hj
        · cases e; exact (setL hlL).2 (.inr rfl)
        · exact (setL hlL).2 (.inl (I.loudIn j hj))
      · intro j k hj hw
        rcases (setL hlL).1 hj with hj | rfl
        · exact (setL hlL).2 (.inl (I.closed j k hj hw))
        · exact (setL hlL).2 (.inl (hpre k hw))
      · have := I.aT.more (i := l) (fun h => by rw [hLl] at h; cases h) v (fun j hj x hx hjx => by
          obtain ⟨c, hc⟩ := I.sub j hj
          have := R.uniq l j x hl (I.dok.2 _ hc).1 hx hjx
          subst this; rw [hLl] at hj; cases hj) d
        rw [dstOf_eq ho] at this
        exact this.congr (fun j => (setL hlL).symm) fun _ _ => rfl
      · have := I.cT.more (i := l) (fun ⟨b, hb⟩ => hnd b hb) v (fun j hj x hx hjx => by
          obtain ⟨b, hb⟩ := hj
          have := R.uniq l j x hl (I.dok.2 _ hb).1 hx hjx
          subst this; exact hnd b hb) d
        rw [dstOf_eq ho] at this
        refine this.congr (fun j => ?_) fun _ _ => rfl
        constructor
        · rintro (⟨b, hb⟩ | rfl)
          · exact ⟨b, List.mem_cons_of_mem _ hb⟩
          · exact ⟨true, List.mem_cons_self ..⟩
        · rintro ⟨b, hb⟩
          rcases List.mem_cons.1 hb with e | hb
          · right; exact congrArg Prod.fst e
          · left; exact ⟨b, hb⟩
      · rw [put_defers', put_defers']
      · intro j hj hjl
        obtain ⟨h1, h2⟩ := setL_false hlL hjl
        have hjd : (j, false) ∈ done := by
          rcases List.mem_cons.1 hj with e | hj
          · cases e
          · exact hj
        have hwj : waits ops l j = false := by
          cases h : waits ops l j with
          | false => rfl
          | true => have := hpre j h; rw [h1] at this; cases this
        have hrj : reach ops 8 l j = false := by
          cases h : reach ops 8 l j with
          | false => rfl
          | true => have := reach_listed I.closed 8 l hpre h; rw [h1] at this; cases this
        obtain ⟨o', ai, ho', hv, hsz, hh⟩ := I.held j hjd h1
        refine ⟨o', ai, ho', fun x hx => ⟨fun k hk hkx hw hlt => ?_, (hv x hx).2⟩, hsz, ?_⟩
        · have hkl : k ≠ l := by
            rintro rfl
            rcases Bool.or_eq_true _ _ ▸ hpair _ hjd with h | h
            · rw [hwj] at h; cases h
            · exact apart_dst' h hkx (by rw [looks_eq ho']; exact hx)
          rw [if_neg hkl]
          exact (hv x hx).1 k hk hkx hw hlt
        · rw [if_neg h2]
          rcases hh with ⟨g1, g2, g3⟩ | h
          · obtain ⟨m1, m2⟩ := hre _ g2 hrj
            exact .inl ⟨g1, m1, m2⟩
          · exact .inr h
    have hu' : unlisted (La.setIfInBounds l true) = fuel := by have := unlisted_set hlL hLl; omega
    simp only [CanW] at hC
    unfold OpW at hC ⊢
    simp only [ho] at hC ⊢
    rw [wanted_agree hview, semAt_agree hsel hdef hview, I.defs]
    have keep : ∀ {w' : World}, (∀ x ∈ hs, reach ops 8 l x.1 = false → x.2.2.run P w' = .ok (.value x.2.1) w') →
        ∀ x ∈ hs, reach ops 8 l x.1 = false → x ∈ (hs.filter fun x => !reach ops 8 l x.1) ∧ x.2.2.run P w' = .ok (.value x.2.1) w' :=
      fun h x hx hw => ⟨List.mem_filter.2 ⟨hx, by rw [hw]; rfl⟩, h x hx hw⟩
    by_cases hw : Region.wanted ops[l] (yielded ops tc.tmps) = true
    · rw [if_pos hw] at hC ⊢
      exact hC.mono fun v d w' ⟨hre, hC'⟩ => ih cs _ _ _ _ _ _ w' hk' hC' (next v d w' _ (keep hre)) hu'
    · rw [if_neg hw] at hC ⊢
      obtain ⟨hre, hC'⟩ := hC
      have e1 : ({ ta with defers := tc.defers } : Act) = ta := by rw [← I.defs]
      have := next undef tc.defers w _ (keep hre)
      rw [e1] at this
      exact ih cs _ _ _ _ _ _ w hk' hC' this hu'

/-- **ONE ORDER SERVES EVERY ORDER.** -/
theorem cw_region_canon {b : Frame} {Kx : Ex → Act → World → Prop} {a : Act} {w : World} {id : Nat} (hm : P.follows .mixedOrders = true) (cs : List (Nat × Bool)) (hR : RegionOk ops)
    (hk : canonOk ops cs [] = true) (h : CanW ops P b.roundOf (Kx .normal) cs [] a { w with drawn := w.drawn + 1 }) : Cw P b (.region id ops true) Kx a w := by
  have none : ∀ j, ¬ (Array.replicate ops.size false).getD j false = true := by
    intro j h
    by_cases hj : j < ops.size <;> simp [hj] at h
  have nothing : ∀ S : Nat → Prop, (∀ j, ¬ S j) → ActIs ops a (fun _ => undef) S a := fun S hS => ⟨rfl, fun j hj => absurd hj (hS j), fun _ _ => rfl⟩
  refine cw_region_any hm (canon_sound hR a ops.size cs [] [] (fun _ => undef) _ a a _ hk h ?_ ?_)
  · refine ⟨⟨List.Pairwise.nil, ?_⟩, by simp, fun i hi => absurd hi (none i), ?_, fun i j hi => absurd hi (none i), nothing _ none, nothing _ ?_, rfl, ?_⟩
    · intro x hx; cases hx
    · intro i hi; cases hi
    · rintro j ⟨b, hb⟩; cases hb
    · intro i hi; cases hi
  · simp [unlisted, List.countP_replicate]
end proof
end Go.Dn
