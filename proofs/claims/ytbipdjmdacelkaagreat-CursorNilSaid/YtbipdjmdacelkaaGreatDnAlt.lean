/- A region that draws, in which more than one order of what does more must be gone through: a tree of orders serves all. -/
import Derived.Test.YtbipdjmdacelkaaGreatDnRun
set_option linter.unusedVariables false
namespace Go.Dn
open Go

def AT.heads : AT → List Nat
  | .op i true _ => [i]
  | .alt a b => a.heads ++ b.heads
  | _ => []

section
variable (ops : Array Oper)
def opOk (i : Nat) (done : List (Nat × Bool)) : Bool :=
  decide (i < ops.size) && !(done.any (·.1 == i)) && readyIn ops done i && (done.all fun u => waits ops i u.1 || apartAt ops u.1 i) && selfOk ops i
def onlyOk (hd : List Nat) (done : List (Nat × Bool)) : Bool := (List.range ops.size).all fun j => hd.contains j || done.any (·.1 == j) || !readyIn ops done j

/-- the tree's check; top: here it is chosen -/
def altOk : Bool → AT → List (Nat × Bool) → Bool
  | top, .nil, done => top && (List.range ops.size).all fun i => done.any (·.1 == i)
  | top, .op i false rest, done => top && (opOk ops i done && altOk true rest ((i, false) :: done))
  | top, .op i true rest, done => (!top || onlyOk ops [i] done) && (opOk ops i done && altOk true rest ((i, true) :: done))
  | top, .alt a b, done => (!top || onlyOk ops (a.heads ++ b.heads) done) && (altOk false a done && altOk false b done)

variable (P : Program) (ro : Option Nat)
def AltW (K : Act → World → Prop) : AT → List (Nat × Value × Sem Next) → Act → World → Prop
  | .nil, _, a, w => K a w
  | .alt x y, hs, a, w => AltW K x hs a w ∧ AltW K y hs a w
  | .op i false rest, hs, a, w =>
    match ops[i]? with
    | none => False
    | some o =>
      if Region.wanted o (yielded ops a.tmps) then ∃ v, (o.semAt ro a.eval).run P w = .ok (.value v) w ∧ AltW K rest ((i, v, o.semAt ro a.eval) :: hs) (a.put o.dst v) w
      else AltW K rest hs (a.put o.dst undef) w
  | .op l true rest, hs, a, w =>
    OpW P ro ops l (fun a' w' => (∀ x ∈ hs, reach ops 8 l x.1 = false → x.2.2.run P w' = .ok (.value x.2.1) w') ∧ AltW K rest (hs.filter fun x => !reach ops 8 l x.1) a' w') a w
end

section proof
variable {ops : Array Oper} {P : Program} {ro : Option Nat} {K : Act → World → Prop}

theorem opOk_spec {i : Nat} {done : List (Nat × Bool)} (h : opOk ops i done = true) :
    i < ops.size ∧ (∀ b, (i, b) ∉ done) ∧ readyIn ops done i = true ∧ (∀ u ∈ done, (waits ops i u.1 || apartAt ops u.1 i) = true) ∧ selfOk ops i = true := by
  simp only [opOk, Bool.and_eq_true, decide_eq_true_eq, Bool.not_eq_true', List.all_eq_true] at h
  obtain ⟨⟨⟨⟨h1, h2⟩, h3⟩, h4⟩, h5⟩ := h
  refine ⟨h1, ?_, h3, h4, h5⟩
  intro b hb
  have : (done.any fun x => x.1 == i) = true := List.any_eq_true.2 ⟨_, hb, by simp⟩
  rw [h2] at this; cases this
theorem onlyOk_spec {hd : List Nat} {done : List (Nat × Bool)} (h : onlyOk ops hd done = true) {j : Nat} (hj : j < ops.size) (hnd : ∀ b, (j, b) ∉ done) (hr : readyIn ops done j = true) : j ∈ hd := by
  have h1 := List.all_eq_true.1 h j (List.mem_range.2 hj)
  rw [hr] at h1
  simp only [Bool.not_true, Bool.or_false, Bool.or_eq_true] at h1
  rcases h1 with h1 | h1
  · exact List.contains_iff_mem.1 h1
  · obtain ⟨x, hx, he⟩ := List.any_eq_true.1 h1
    simp only [beq_iff_eq] at he
    exact absurd (by rw [← he]; exact hx) (hnd x.2)

/-- one of the heads: its branch -/
theorem alt_head {i : Nat} : ∀ {t : AT} {done : List (Nat × Bool)} {hs : List (Nat × Value × Sem Next)} {a : Act} {w : World}, i ∈ t.heads → altOk ops false t done = true → AltW ops P ro K t hs a w →
    ∃ rest, opOk ops i done = true ∧ altOk ops true rest ((i, true) :: done) = true ∧ AltW ops P ro K (.op i true rest) hs a w
  | .op j true rest, done, hs, a, w, hi, hk, hC => by
    simp only [AT.heads, List.mem_cons, List.not_mem_nil, or_false] at hi
    subst hi
    simp only [altOk, Bool.not_false, Bool.true_or, Bool.true_and, Bool.and_eq_true] at hk
    exact ⟨rest, hk.1, hk.2, hC⟩
  | .alt x y, done, hs, a, w, hi, hk, hC => by
    simp only [altOk, Bool.not_false, Bool.true_or, Bool.true_and, Bool.and_eq_true] at hk
    rcases List.mem_append.1 hi with hi | hi
    · exact alt_head hi hk.1 hC.1
    · exact alt_head hi hk.2 hC.2
  | .nil, done, hs, a, w, hi, hk, hC => by cases hi
  | .op j false rest, done, hs, a, w, hi, hk, hC => by cases hi

/-- what is left to be shown -/
def Left (ops : Array Oper) (P : Program) (ro : Option Nat) (K : Act → World → Prop) (done : List (Nat × Bool)) (hs : List (Nat × Value × Sem Next)) (tc : Act) (w : World) : Prop :=
  ∃ t, altOk ops true t done = true ∧ AltW ops P ro K t hs tc w

theorem alt_sound (R : RegionOk ops) (a0 : Act) : ∀ (fuel : Nat) (done : List (Nat × Bool)) (hs : List (Nat × Value × Sem Next)) (V : Nat → Value) (La : Array Bool) (ta tc : Act) (w : World),
    Left ops P ro K done hs tc w → CInv ops P ro a0 done hs V La ta tc w → unlisted La = fuel → AnyW P ro ops K fuel La ta w := by
  intro fuel
  induction fuel with
  | zero =>
    rintro done hs V La ta tc w ⟨t, hk, hC⟩ I hu
    have absurd_of : ∀ i, opOk ops i done = true → False := fun i h => by
      obtain ⟨hi, hnd, _⟩ := opOk_spec h
      obtain ⟨b, hb⟩ := I.sub i (unlisted_zero hu (by rw [I.lsize]; exact hi))
      exact hnd b hb
    have none' : ∀ t, altOk ops false t done = true → False := by
      intro t
      induction t with
      | nil => intro h; simp [altOk] at h
      | op i loud rest _ =>
        intro h
        cases loud with
        | false => simp [altOk] at h
        | true => simp only [altOk, Bool.not_false, Bool.true_or, Bool.true_and, Bool.and_eq_true] at h; exact absurd_of i h.1
      | alt a b iha _ => intro h; simp only [altOk, Bool.not_false, Bool.true_or, Bool.true_and, Bool.and_eq_true] at h; exact iha h.1
    cases t with
    | nil =>
      rw [I.over fun i hi => unlisted_zero hu (by rw [I.lsize]; exact hi)]
      exact hC
    | op i loud rest =>
      exfalso
      cases loud with
      | false => simp only [altOk, Bool.true_and, Bool.and_eq_true] at hk; exact absurd_of i hk.1
      | true => simp only [altOk, Bool.and_eq_true] at hk; exact absurd_of i hk.2.1
    | alt a b =>
      exfalso
      simp only [altOk, Bool.and_eq_true] at hk
      exact none' a hk.2.1
  | succ fuel ih =>
    rintro done hs V La ta tc w ⟨t, hk, hC⟩ I hu
    induction t generalizing done hs V La ta tc w with
    | nil =>
      have hall : ∀ i, i < ops.size → ∃ b, (i, b) ∈ done := by
        intro i hi
        simp only [altOk, Bool.true_and, List.all_eq_true, List.mem_range] at hk
        obtain ⟨x, hx, he⟩ := List.any_eq_true.1 (hk i hi)
        simp only [beq_iff_eq] at he
        exact ⟨x.2, by rw [← he]; exact hx⟩
      refine ⟨fun hr => ?_, fun i hr => ?_⟩
      · rw [I.over (all_listed R I.lsize hr)]; exact hC
      · exact step_held R a0 ih ⟨.nil, hk, hC⟩ I hu hr (hall i ((ready_iff I.lsize).1 hr).1)
    | op l loud rest ihc =>
      cases loud with
      | false =>
        simp only [altOk, Bool.true_and, Bool.and_eq_true] at hk
        obtain ⟨hl, hnd, hrd, hpair, hself⟩ := opOk_spec hk.1
        have ho : ops[l]? = some ops[l] := Array.getElem?_eq_getElem hl
        simp only [AltW, ho] at hC
        by_cases hw : Region.wanted ops[l] (yielded ops tc.tmps) = true
        · rw [if_pos hw] at hC
          obtain ⟨v, hy, hC⟩ := hC
          exact ihc _ _ _ La ta _ w hk.2 hC (I.quiet R hl hnd hrd hpair hself ho (fun x hx => List.mem_cons_of_mem _ hx) (.inl ⟨hw, List.mem_cons_self .., hy⟩)) hu
        · rw [if_neg hw] at hC
          exact ihc _ _ _ La ta _ w hk.2 hC (I.quiet R hl hnd hrd hpair hself ho (fun x hx => hx) (.inr ⟨by simpa using hw, rfl⟩)) hu
      | true =>
        have hk0 := hk
        simp only [altOk, Bool.not_true, Bool.false_or, Bool.and_eq_true] at hk
        obtain ⟨hl, hnd, hrd, hpair, hself⟩ := opOk_spec hk.2.1
        refine ⟨fun hr => ?_, fun i hr => ?_⟩
        · obtain ⟨b, hb⟩ := I.sub l (all_listed R I.lsize hr l hl)
          exact absurd hb (hnd b)
        · by_cases hid : ∃ b, (i, b) ∈ done
          · exact step_held R a0 ih ⟨_, hk0, hC⟩ I hu hr hid
          · have hid' : ∀ b, (i, b) ∉ done := fun b hb => hid ⟨b, hb⟩
            obtain ⟨hi, hLi, hpre⟩ := (ready_iff I.lsize).1 hr
            have h2 := (readyIn_iff (done := done) hi).2 fun j hj => I.sub j (hpre j hj)
            have := onlyOk_spec hk.1 hi hid' h2
            simp only [List.mem_cons, List.not_mem_nil, or_false] at this
            subst this
            refine step_loud R a0 ih hk.2.1 ?_ I hu hr
            unfold AltW at hC
            refine hC.mono fun a' w' ⟨h1, h3⟩ => ⟨h1, rest, hk.2.2, h3⟩
    | alt x y _ _ =>
      have hk0 := hk
      simp only [altOk, Bool.not_true, Bool.false_or, Bool.and_eq_true] at hk
      have some' : ∀ t, altOk ops false t done = true → ∃ i, opOk ops i done = true := by
        intro t
        induction t with
        | nil => intro h; simp [altOk] at h
        | op i loud rest _ =>
          intro h
          cases loud with
          | false => simp [altOk] at h
          | true => simp only [altOk, Bool.not_false, Bool.true_or, Bool.true_and, Bool.and_eq_true] at h; exact ⟨i, h.1⟩
        | alt a b iha _ => intro h; simp only [altOk, Bool.not_false, Bool.true_or, Bool.true_and, Bool.and_eq_true] at h; exact iha h.1
      refine ⟨fun hr => ?_, fun i hr => ?_⟩
      · obtain ⟨l, hl⟩ := some' x hk.2.1
        obtain ⟨hl, hnd, _⟩ := opOk_spec hl
        obtain ⟨b, hb⟩ := I.sub l (all_listed R I.lsize hr l hl)
        exact absurd hb (hnd b)
      · by_cases hid : ∃ b, (i, b) ∈ done
        · exact step_held R a0 ih ⟨_, hk0, hC⟩ I hu hr hid
        · have hid' : ∀ b, (i, b) ∉ done := fun b hb => hid ⟨b, hb⟩
          obtain ⟨hi, hLi, hpre⟩ := (ready_iff I.lsize).1 hr
          have h2 := (readyIn_iff (done := done) hi).2 fun j hj => I.sub j (hpre j hj)
          have hm := onlyOk_spec hk.1 hi hid' h2
          have hk' : altOk ops false (.alt x y) done = true := by simp only [altOk, Bool.not_false, Bool.true_or, Bool.true_and, Bool.and_eq_true]; exact hk.2
          obtain ⟨rest, ho1, hk2, hC2⟩ := alt_head (t := .alt x y) hm hk' hC
          refine step_loud R a0 ih ho1 ?_ I hu hr
          unfold AltW at hC2
          exact hC2.mono fun a' w' ⟨h1, h3⟩ => ⟨h1, rest, hk2, h3⟩
where
  step_held (R : RegionOk ops) (a0 : Act) {fuel : Nat}
      (ih : ∀ (done : List (Nat × Bool)) (hs : List (Nat × Value × Sem Next)) (V : Nat → Value) (La : Array Bool) (ta tc : Act) (w : World),
        Left ops P ro K done hs tc w → CInv ops P ro a0 done hs V La ta tc w → unlisted La = fuel → AnyW P ro ops K fuel La ta w)
      {done : List (Nat × Bool)} {hs : List (Nat × Value × Sem Next)} {V : Nat → Value} {La : Array Bool} {ta tc : Act} {w : World}
      (hH : Left ops P ro K done hs tc w) (I : CInv ops P ro a0 done hs V La ta tc w) (hu : unlisted La = fuel + 1)
      {i : Nat} (hr : i ∈ Region.ready .any ops La) (hid : ∃ b, (i, b) ∈ done) : OpW P ro ops i (AnyW P ro ops K fuel (La.setIfInBounds i true)) ta w := by
    obtain ⟨hi, hLi, hpre⟩ := (ready_iff I.lsize).1 hr
    obtain ⟨b, hb⟩ := hid
    have hbf : b = false := by
      cases b with
      | false => rfl
      | true => have := I.loudIn i hb; rw [hLi] at this; cases this
    subst hbf
    obtain ⟨o, ai, ho, hv, hsz, hh⟩ := I.held i hb hLi
    have hview := I.view R hb hr ho hv hsz
    have hiL : i < La.size := by rw [I.lsize]; exact hi
    obtain ⟨hsel, hdef⟩ := R.sel i o ho
    -- the state behind it
    have I' : CInv ops P ro a0 done hs V (La.setIfInBounds i true) (ta.put o.dst (V i)) tc w := by
      refine ⟨I.dok, by simp [I.lsize], ?_, ?_, ?_, ?_, I.cT, ?_, ?_⟩
      · intro j hj
        rcases (setL hiL).1 hj with hj | rfl
        · exact I.sub j hj
        · exact ⟨_, hb⟩
      · intro j hj; exact (setL hiL).2 (.inl (I.loudIn j hj))
      · intro j k hj hw
        rcases (setL hiL).1 hj with hj | rfl
        · exact (setL hiL).2 (.inl (I.closed j k hj hw))
        · exact (setL hiL).2 (.inl (hpre k hw))
      · have := I.aT.more (i := i) (fun h => by rw [hLi] at h; cases h) (V i) (fun j hj x hx hjx => by
          obtain ⟨c, hc⟩ := I.sub j hj
          have := R.uniq i j x hi (I.dok.2 _ hc).1 hx hjx
          subst this; rw [hLi] at hj; cases hj) ta.defers
        rw [dstOf_eq ho] at this
        refine this.congr (fun j => (setL hiL).symm) fun j _ => ?_
        by_cases h : j = i
        · rw [if_pos h, h]
        · rw [if_neg h]
      · rw [put_defers']; exact I.defs
      · intro j hj hjl
        obtain ⟨h1, h2⟩ := setL_false hiL hjl
        exact I.held j hj h1
    have hu' : unlisted (La.setIfInBounds i true) = fuel := by have := unlisted_set hiL hLi; omega
    unfold OpW
    simp only [ho]
    rw [wanted_agree hview, semAt_agree hsel hdef hview]
    rcases hh with ⟨hw, _, hy⟩ | ⟨hw, hv0⟩
    · rw [if_pos hw, hy]
      exact ih done hs V _ _ tc w hH I' hu'
    · rw [if_neg (by rw [hw]; simp)]
      rw [hv0] at I'
      exact ih done hs V _ _ tc w hH I' hu'
  step_loud (R : RegionOk ops) (a0 : Act) {fuel : Nat}
      (ih : ∀ (done : List (Nat × Bool)) (hs : List (Nat × Value × Sem Next)) (V : Nat → Value) (La : Array Bool) (ta tc : Act) (w : World),
        Left ops P ro K done hs tc w → CInv ops P ro a0 done hs V La ta tc w → unlisted La = fuel → AnyW P ro ops K fuel La ta w)
      {l : Nat} {done : List (Nat × Bool)} {hs : List (Nat × Value × Sem Next)} {V : Nat → Value} {La : Array Bool} {ta tc : Act} {w : World}
      (hk : opOk ops l done = true) (hC : OpW P ro ops l (fun a' w' => (∀ x ∈ hs, reach ops 8 l x.1 = false → x.2.2.run P w' = .ok (.value x.2.1) w') ∧ Left ops P ro K ((l, true) :: done) (hs.filter fun x => !reach ops 8 l x.1) a' w') tc w) (I : CInv ops P ro a0 done hs V La ta tc w) (hu : unlisted La = fuel + 1)
      (hr : l ∈ Region.ready .any ops La) : OpW P ro ops l (AnyW P ro ops K fuel (La.setIfInBounds l true)) ta w := by
    obtain ⟨hl, hnd, hrd, hpair, hself⟩ := opOk_spec hk
    obtain ⟨_, hLl, hpre⟩ := (ready_iff I.lsize).1 hr
    have hlL : l < La.size := by rw [I.lsize]; exact hl
    have ho : ops[l]? = some ops[l] := Array.getElem?_eq_getElem hl
    obtain ⟨hsel, hdef⟩ := R.sel l _ ho
    have hview : ∀ x ∈ ops[l].looksAt ops, ta.tmps[x]? = tc.tmps[x]? := by
      intro x hx
      by_cases hw : ∃ j, (∃ b, (j, b) ∈ done) ∧ dstOf ops j = some x
      · obtain ⟨j, ⟨b, hj⟩, hjx⟩ := hw
        by_cases hjL : La.getD j false = true
        · by_cases hlt : x < a0.tmps.size
          · rw [I.aT.wrote j hjL x hjx hlt, I.cT.wrote j ⟨b, hj⟩ x hjx hlt]
          · rw [Array.getElem?_eq_none (by rw [I.aT.size]; exact Nat.le_of_not_lt hlt), Array.getElem?_eq_none (by rw [I.cT.size]; exact Nat.le_of_not_lt hlt)]
        · exfalso
          rcases Bool.or_eq_true _ _ ▸ hpair _ hj with h | h
          · exact hjL (hpre j h)
          · exact apart_dst h hjx (by rw [looks_eq ho]; exact hx)
      · have hn : ∀ j, (∃ b, (j, b) ∈ done) → dstOf ops j ≠ some x := fun j hj hd => hw ⟨j, hj, hd⟩
        rw [I.cT.rest x hn, I.aT.rest x fun j hj => hn j (I.sub j hj)]
    -- the state behind it
    have next : ∀ (v : Value) (d : List Deferred) (w' : World) (hs' : List (Nat × Value × Sem Next)),
        (∀ x ∈ hs, reach ops 8 l x.1 = false → x ∈ hs' ∧ x.2.2.run P w' = .ok (.value x.2.1) w') →
        CInv ops P ro a0 ((l, true) :: done) hs' (fun j => if j = l then v else V j) (La.setIfInBounds l true) ({ ta with defers := d }.put ops[l].dst v) ({ tc with defers := d }.put ops[l].dst v) w' := by
      intro v d w' hs' hre
      refine ⟨⟨?_, ?_⟩, by simp [I.lsize], ?_, ?_, ?_, ?_, ?_, ?_, ?_⟩
      · rw [List.pairwise_cons]
        exact ⟨fun u hu => ⟨fun e => hnd u.2 (by have e' : l = u.1 := e; rw [e']; exact hu), hpair u hu⟩, I.dok.1⟩
      · intro x hx
        rcases List.mem_cons.1 hx with rfl | hx
        · exact ⟨hl, hself⟩
        · exact I.dok.2 x hx
      · intro j hj
        rcases (setL hlL).1 hj with hj | rfl
        · obtain ⟨b, hb⟩ := I.sub j hj
          exact ⟨b, List.mem_cons_of_mem _ hb⟩
        · exact ⟨true, List.mem_cons_self ..⟩
      · intro j hj
        rcases List.mem_cons.1 hj with e | hj
        · cases e; exact (setL hlL).2 (.inr rfl)
        · exact (setL hlL).2 (.inl (I.loudIn j hj))
      · intro j k hj hw
        rcases (setL hlL).1 hj with hj | rfl
        · exact (setL hlL).2 (.inl (I.closed j k hj hw))
        · exact (setL hlL).2 (.inl (hpre k hw))
      · have := I.aT.more (i := l) (fun h => by rw [hLl] at h; cases h) v (fun j hj x hx hjx => by
          obtain ⟨c, hc⟩ := I.sub j hj
          have := R.uniq l j x hl (I.dok.2 _ hc).1 hx hjx
          subst this; rw [hLl] at hj; cases hj) d
        rw [dstOf_eq ho] at this
        exact this.congr (fun j => (setL hlL).symm) fun _ _ => rfl
      · have := I.cT.more (i := l) (fun ⟨b, hb⟩ => hnd b hb) v (fun j hj x hx hjx => by
          obtain ⟨b, hb⟩ := hj
          have := R.uniq l j x hl (I.dok.2 _ hb).1 hx hjx
          subst this; exact hnd b hb) d
        rw [dstOf_eq ho] at this
        refine this.congr (fun j => ?_) fun _ _ => rfl
        constructor
        · rintro (⟨b, hb⟩ | rfl)
          · exact ⟨b, List.mem_cons_of_mem _ hb⟩
          · exact ⟨true, List.mem_cons_self ..⟩
        · rintro ⟨b, hb⟩
          rcases List.mem_cons.1 hb with e | hb
          · right; exact congrArg Prod.fst e
          · left; exact ⟨b, hb⟩
      · rw [put_defers', put_defers']
      · intro j hj hjl
        obtain ⟨h1, h2⟩ := setL_false hlL hjl
        have hjd : (j, false) ∈ done := by
          rcases List.mem_cons.1 hj with e | hj
          · cases e
          · exact hj
        have hwj : waits ops l j = false := by
          cases h : waits ops l j with
          | false => rfl
          | true => have := hpre j h; rw [h1] at this; cases this
        have hrj : reach ops 8 l j = false := by
          cases h : reach ops 8 l j with
          | false => rfl
          | true => have := reach_listed I.closed 8 l hpre h; rw [h1] at this; cases this
        obtain ⟨o', ai, ho', hv, hsz, hh⟩ := I.held j hjd h1
        refine ⟨o', ai, ho', fun x hx => ⟨fun k hk hkx hw hlt => ?_, (hv x hx).2⟩, hsz, ?_⟩
        · have hkl : k ≠ l := by
            rintro rfl
            rcases Bool.or_eq_true _ _ ▸ hpair _ hjd with h | h
            · rw [hwj] at h; cases h
            · exact apart_dst' h hkx (by rw [looks_eq ho']; exact hx)
          rw [if_neg hkl]
          exact (hv x hx).1 k hk hkx hw hlt
        · rw [if_neg h2]
          rcases hh with ⟨g1, g2, g3⟩ | h
          · obtain ⟨m1, m2⟩ := hre _ g2 hrj
            exact .inl ⟨g1, m1, m2⟩
          · exact .inr h
    have hu' : unlisted (La.setIfInBounds l true) = fuel := by have := unlisted_set hlL hLl; omega
    unfold OpW at hC ⊢
    simp only [ho] at hC ⊢
    rw [wanted_agree hview, semAt_agree hsel hdef hview, I.defs]
    have keep : ∀ {w' : World}, (∀ x ∈ hs, reach ops 8 l x.1 = false → x.2.2.run P w' = .ok (.value x.2.1) w') →
        ∀ x ∈ hs, reach ops 8 l x.1 = false → x ∈ (hs.filter fun x => !reach ops 8 l x.1) ∧ x.2.2.run P w' = .ok (.value x.2.1) w' :=
      fun h x hx hw => ⟨List.mem_filter.2 ⟨hx, by rw [hw]; rfl⟩, h x hx hw⟩
    by_cases hw : Region.wanted ops[l] (yielded ops tc.tmps) = true
    · rw [if_pos hw] at hC ⊢
      exact hC.mono fun v d w' ⟨hre, hC'⟩ => ih _ _ _ _ _ _ w' hC' (next v d w' _ (keep hre)) hu'
    · rw [if_neg hw] at hC ⊢
      obtain ⟨hre, hC'⟩ := hC
      have e1 : ({ ta with defers := tc.defers } : Act) = ta := by rw [← I.defs]
      have := next undef tc.defers w _ (keep hre)
      rw [e1] at this
      exact ih _ _ _ _ _ _ w hC' this hu'

theorem cw_region_alts {b : Frame} {Kx : Ex → Act → World → Prop} {a : Act} {w : World} {id : Nat} (hm : P.follows .mixedOrders = true) (t : AT) (hR : RegionOk ops)
    (hk : altOk ops true t [] = true) (h : AltW ops P b.roundOf (Kx .normal) t [] a { w with drawn := w.drawn + 1 }) : Cw P b (.region id ops true) Kx a w := by
  have none : ∀ j, ¬ (Array.replicate ops.size false).getD j false = true := by
    intro j h
    by_cases hj : j < ops.size <;> simp [hj] at h
  have nothing : ∀ S : Nat → Prop, (∀ j, ¬ S j) → ActIs ops a (fun _ => undef) S a := fun S hS => ⟨rfl, fun j hj => absurd hj (hS j), fun _ _ => rfl⟩
  refine cw_region_any hm (alt_sound hR a ops.size [] [] (fun _ => undef) _ a a _ ⟨t, hk, h⟩ ?_ ?_)
  · refine ⟨⟨List.Pairwise.nil, ?_⟩, by simp, fun i hi => absurd hi (none i), ?_, fun i j hi => absurd hi (none i), nothing _ none, nothing _ ?_, rfl, ?_⟩
    · intro x hx; cases hx
    · intro i hi; cases hi
    · rintro j ⟨b, hb⟩; cases hb
    · intro i hi; cases hi
  · simp [unlisted, List.countP_replicate]
end proof

section regions
variable {P : Program} {n : Nat} {ops : Array Oper} {ro : Option Nat}
/-- the temporaries that the operations write -/
def wrA (ops : List Oper) : AT → List Nat
  | .nil => []
  | .alt a b => wrA ops a ++ wrA ops b
  | .op i _ rest =>
    match nth ops i with
    | some o => match o.dst with | some d => d :: wrA ops rest | none => wrA ops rest
    | none => wrA ops rest
theorem updA_out {fr : Fr} {o : Oper} {v : Value} {rest : AT} {i : Nat} {loud : Bool} (ho : ops[i]? = some o) {j : Nat} (h : memN j (wrA ops.toList (.op i loud rest)) = false) :
    memN j (wrA ops.toList rest) = false ∧ updO fr o.dst v j = fr j := by
  simp only [wrA, nth_eq, Array.getElem?_toList, ho] at h
  cases hd : o.dst with
  | none => rw [hd] at h; exact ⟨h, rfl⟩
  | some d =>
    rw [hd, memN_false] at h
    simp only [List.mem_cons, not_or] at h
    exact ⟨memN_false.2 h.2, upd_ne _ _ h.1⟩

/-- what has been read is known -/
def HA (P : Program) (n : Nat) (hsE : List (Nat × Value × Fr × Oper)) (hsC : List (Nat × Value × Sem Next)) (h : Mem) : Prop :=
  ∀ x ∈ hsC, (∀ w, x.2.2.run P w = .ok (.value x.2.1) w) ∨
    (∃ fr o, (x.1, x.2.1, fr, o) ∈ hsE ∧ clsOf P o = .read ∧ x.2.2 = execOp (evv n fr) o ∧ ∀ w : World, w.heap = h → x.2.2.run P w = .ok (.value x.2.1) w)

theorem evA_ok {K' : Act → World → Prop} : ∀ (t : AT) {K : Fr → Mem → Prop} {hsE : List (Nat × Value × Fr × Oper)} {hsC : List (Nat × Value × Sem Next)} {fr : Fr} {a : Act} {w : World},
    evA P n ops.toList t hsE fr w.heap K → Ag n fr a → HA P n hsE hsC w.heap →
    (∀ fr' a' w', K fr' w'.heap → Ag n fr' a' → a'.defers = a.defers → Same w w' → (∀ i, memN i (wrA ops.toList t) = false → fr' i = fr i) → K' a' w') →
    AltW ops P ro K' t hsC a w
  | .nil, K, hsE, hsC, fr, a, w, he, g, hR, hk => hk fr a w he g rfl (Same.refl _) (fun _ _ => rfl)
  | .alt x y, K, hsE, hsC, fr, a, w, he, g, hR, hk => by
    have left : ∀ i, memN i (wrA ops.toList (.alt x y)) = false → memN i (wrA ops.toList x) = false ∧ memN i (wrA ops.toList y) = false := by
      intro i hi
      simp only [wrA] at hi
      rw [memN_false, List.mem_append, not_or] at hi
      exact ⟨memN_false.2 hi.1, memN_false.2 hi.2⟩
    exact ⟨evA_ok x he.1 g hR fun fr' a' w' hK g' hd hs ho => hk fr' a' w' hK g' hd hs fun i hi => ho i (left i hi).1,
      evA_ok y he.2 g hR fun fr' a' w' hK g' hd hs ho => hk fr' a' w' hK g' hd hs fun i hi => ho i (left i hi).2⟩
  | .op i false rest, K, hsE, hsC, fr, a, w, he, g, hR, hk => by
    simp only [evA, nth_eq, Array.getElem?_toList] at he
    cases ho : ops[i]? with
    | none => rw [ho] at he; exact he.elim
    | some o =>
      rw [ho] at he
      simp only at he
      simp only [AltW, ho]
      have next : ∀ (v : Value) (hsE' : List (Nat × Value × Fr × Oper)) (hsC' : List (Nat × Value × Sem Next)),
          evA P n ops.toList rest hsE' (updO fr o.dst v) w.heap K → HA P n hsE' hsC' w.heap → AltW ops P ro K' rest hsC' (a.put o.dst v) w := by
        intro v hsE' hsC' he hR'
        refine evA_ok rest he (g.put _ _) hR' fun fr' a' w'' hK g' hd' hs' hout => ?_
        refine hk fr' a' w'' hK g' (by rw [hd', put_defers']) hs' fun j hj => ?_
        obtain ⟨h1, h2⟩ := updA_out (fr := fr) (v := v) ho hj
        rw [hout j h1, h2]
      rcases evG_ok g he with ⟨hw, he⟩ | ⟨hw, he⟩
      · rw [if_pos hw]
        split at he
        · rename_i hc
          obtain ⟨v, hv, hr⟩ := evP_ok he
          have hd : ∀ c, o.op ≠ .defer c := fun c e => by have := cls_loud (P := P) ⟨c, e⟩; rw [hc] at this; cases this
          rw [Oper.semAt_eq _ _ _ hd, g.eval]
          refine ⟨v, hr w, next v hsE _ hv ?_⟩
          intro x hx
          rcases List.mem_cons.1 hx with rfl | hx
          · exact .inl hr
          · exact hR x hx
        · rename_i hc
          obtain ⟨v, hv, hr⟩ := evR_ok hc he
          have hd : ∀ c, o.op ≠ .defer c := fun c e => by have := cls_loud (P := P) ⟨c, e⟩; rw [hc] at this; cases this
          rw [Oper.semAt_eq _ _ _ hd, g.eval]
          refine ⟨v, hr w rfl, next v _ _ hv ?_⟩
          intro x hx
          rcases List.mem_cons.1 hx with rfl | hx
          · exact .inr ⟨fr, o, List.mem_cons_self .., hc, rfl, hr⟩
          · rcases hR x hx with h | ⟨f, o', h1, h2, h3, h4⟩
            · exact .inl h
            · exact .inr ⟨f, o', List.mem_cons_of_mem _ h1, h2, h3, h4⟩
        · exact he.elim
      · rw [if_neg (by rw [hw]; simp)]
        exact next undef hsE hsC he hR
  | .op i true rest, K, hsE, hsC, fr, a, w, he, g, hR, hk => by
    simp only [evA, nth_eq, Array.getElem?_toList] at he
    cases ho : ops[i]? with
    | none => rw [ho] at he; exact he.elim
    | some o =>
      rw [ho] at he
      simp only at he
      simp only [AltW, OpW, ho]
      have hre : ∀ j, reachL ops.toList 8 o j = reach ops 8 i j := fun j => by rw [← reach_eq, ho]
      have next : ∀ (v : Value) (w' : World), Same w w' → evA P n ops.toList rest (dropWaits ops.toList o hsE) (updO fr o.dst v) w'.heap K →
          (∀ x ∈ hsE, clsOf P x.2.2.2 = .read → reachL ops.toList 8 o x.1 = false → ∀ x' : Nat × Value × Sem Next, x'.1 = x.1 → x'.2.1 = x.2.1 → x'.2.2 = execOp (evv n x.2.2.1) x.2.2.2 →
            (∀ w2 : World, w2.heap = w.heap → x'.2.2.run P w2 = .ok (.value x'.2.1) w2) → ∀ w2 : World, w2.heap = w'.heap → x'.2.2.run P w2 = .ok (.value x'.2.1) w2) →
          (∀ x ∈ hsC, reach ops 8 i x.1 = false → x.2.2.run P w' = .ok (.value x.2.1) w') ∧ AltW ops P ro K' rest (hsC.filter fun x => !reach ops 8 i x.1) (a.put o.dst v) w' := by
        intro v w' hsm he hval
        have hval' : ∀ x ∈ hsC, reach ops 8 i x.1 = false → (∀ w, x.2.2.run P w = .ok (.value x.2.1) w) ∨
            (∃ f o', (x.1, x.2.1, f, o') ∈ dropWaits ops.toList o hsE ∧ clsOf P o' = .read ∧ x.2.2 = execOp (evv n f) o' ∧ ∀ w2 : World, w2.heap = w'.heap → x.2.2.run P w2 = .ok (.value x.2.1) w2) := by
          intro x hx hr
          rcases hR x hx with h | ⟨f, o', h1, h2, h3, h4⟩
          · exact .inl h
          · have hrl : reachL ops.toList 8 o x.1 = false := by rw [hre]; exact hr
            exact .inr ⟨f, o', mem_dropWaits.2 ⟨h1, hrl⟩, h2, h3, hval _ h1 h2 hrl x rfl rfl h3 h4⟩
        refine ⟨fun x hx hr => ?_, ?_⟩
        · rcases hval' x hx hr with h | ⟨f, o', _, _, _, h⟩
          · exact h w'
          · exact h w' rfl
        refine evA_ok rest he (g.put _ _) ?_ fun fr' a' w'' hK g' hd' hs' hout => ?_
        · intro x hx
          obtain ⟨hx, hr⟩ := List.mem_filter.1 hx
          exact hval' x hx (by simpa using hr)
        refine hk fr' a' w'' hK g' (by rw [hd', put_defers']) (hsm.trans hs') fun j hj => ?_
        obtain ⟨h1, h2⟩ := updA_out (fr := fr) (v := v) ho hj
        rw [hout j h1, h2]
      rcases evG_ok g he with ⟨hw, he⟩ | ⟨hw, he⟩
      · rw [if_pos hw]
        split at he
        · rename_i hc
          obtain ⟨hd, hi⟩ := evL_ok he
          rw [Oper.semAt_eq _ _ _ hd, g.eval]
          refine (NextV.toDo (hi w rfl)).mono fun v d w' ⟨hdd, hs, ha⟩ => ?_
          subst hdd
          obtain ⟨he, hag⟩ := evAgain_out ha
          refine next v w' hs he fun x hx hcx hr x' e1 e2 e3 _ w2 hw2 => ?_
          obtain ⟨v', hv', hrun⟩ := evR_ok hcx (hag x hx hr)
          subst hv'
          rw [e3, e2]
          exact hrun w2 hw2
        · exact he.elim
      · rw [if_neg (by rw [hw]; simp)]
        exact next undef w (Same.refl _) he fun x hx _ _ x' _ _ _ h => h
end regions

end Go.Dn
