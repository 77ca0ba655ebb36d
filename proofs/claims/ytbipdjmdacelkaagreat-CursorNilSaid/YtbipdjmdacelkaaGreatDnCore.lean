/- The logic of code: what a piece of code brings about, said of every frame, of rounds of range-over-func loops too; regions that draw their order by one canonical order. -/
import Derived.AtR
import Derived.Orders
namespace Go.Dn
open Go

abbrev Mem := Array Obj

/-- the streams stand as they stood -/
structure Same (w w' : World) : Prop where
  os : w'.os = w.os
  tape : w'.tape = w.tape
  output : w'.output = w.output

theorem Same.refl (w : World) : Same w w := ⟨rfl, rfl, rfl⟩
theorem Same.trans {a b c : World} (h : Same a b) (k : Same b c) : Same a c := ⟨k.os.trans h.os, k.tape.trans h.tape, k.output.trans h.output⟩

/-! ### frames that come to their end -/

/-- a frame, begun, comes to its end: its caller takes the value up -/
def FrDoes (P : Program) (fr : Frame) (w : World) (R : Value → World → Prop) : Prop :=
  ∀ (c : Frame) (cs : List Frame), ∃ v w', R v w' ∧ Steps P (lone fr (c :: cs) w) (lone (c.finish v) cs w')

theorem FrDoes.mono {P : Program} {fr : Frame} {w : World} {R R' : Value → World → Prop} (h : FrDoes P fr w R) (hr : ∀ v w', R v w' → R' v w') : FrDoes P fr w R' :=
  fun c cs => let ⟨v, w', r, s⟩ := h c cs; ⟨v, w', hr _ _ r, s⟩

theorem FrDoes.of_calls {P : Program} {f : FuncId} {args : Array Value} {w : World} {R : Value → World → Prop}
    (h : Calls P f args w fun e w' => ∃ v, e = .returned v ∧ R v w') : FrDoes P (Frame.enter P f args .normal) w R := by
  intro c cs
  obtain ⟨e, w', fr, ⟨v, rfl, hR⟩, hc, _, hl⟩ := h (c :: cs)
  exact ⟨v, w', hR, Steps.trans hc (.one (step_leave_returned hl))⟩

/-- what one operation's outcome asks for -/
def NextDo (P : Program) (ro : Option Nat) (ds : List Deferred) (R : Value → List Deferred → World → Prop) : Result Next → Prop
  | .ok (.value v) w' => R v ds w'
  | .ok .skip w' => R undef ds w'
  | .ok (.enter f args) w' => FrDoes P (Frame.enter P f args .normal) w' fun v w'' => R v ds w''
  | .ok (.row row args) w' => Rows P row args w' fun v w'' => R v ds w''
  | .ok (.round l f tmps assign body) w' => FrDoes P (Frame.round l f tmps assign body .normal) w' fun v w'' => R v ds w''
  | .ok (.defer d) w' => ro = none ∧ R undef (d :: ds) w'
  | _ => False

theorem NextDo.mono {P : Program} {ro : Option Nat} {ds : List Deferred} {R R' : Value → List Deferred → World → Prop} {r : Result Next} (h : NextDo P ro ds R r)
    (hr : ∀ v d w, R v d w → R' v d w) : NextDo P ro ds R' r := by
  unfold NextDo at *
  split at h
  · exact hr _ _ _ h
  · exact hr _ _ _ h
  · exact h.mono fun _ _ => hr _ _ _
  · exact Rows.mono h fun _ _ => hr _ _ _
  · exact h.mono fun _ _ => hr _ _ _
  · exact ⟨h.1, hr _ _ _ h.2⟩
  · exact h.elim

/-! ### regions -/

/-- Operation i comes up. -/
def OpW (P : Program) (ro : Option Nat) (ops : Array Oper) (i : Nat) (K : Act → World → Prop) (a : Act) (w : World) : Prop :=
  match ops[i]? with
  | none => K a w
  | some o => if Region.wanted o (yielded ops a.tmps) then NextDo P ro a.defers (fun v d w' => K ({ a with defers := d }.put o.dst v) w') ((o.semAt ro a.eval).run P w)
    else K (a.put o.dst undef) w

def OpsW (P : Program) (ro : Option Nat) (ops : Array Oper) (K : Act → World → Prop) : List Nat → Act → World → Prop
  | [], a, w => K a w
  | i :: rest, a, w => OpW P ro ops i (OpsW P ro ops K rest) a w

theorem OpW.mono {P : Program} {ro : Option Nat} {ops : Array Oper} {i : Nat} {K K' : Act → World → Prop} {a : Act} {w : World} (hk : ∀ a w, K a w → K' a w)
    (h : OpW P ro ops i K a w) : OpW P ro ops i K' a w := by
  unfold OpW at *
  split
  · rename_i ho; simp only [ho] at h; exact hk _ _ h
  · rename_i o ho
    simp only [ho] at h
    split
    · rename_i hw; rw [if_pos hw] at h; exact h.mono fun _ _ _ => hk _ _
    · rename_i hw; rw [if_neg hw] at h; exact hk _ _ h

theorem ops_sound {P : Program} {ops : Array Oper} {K : Act → World → Prop} {b : Frame} (l : List Nat) : ∀ (a : Act) (w : World), OpsW P b.roundOf ops K l a w →
    ∀ (k : List Item) (cs : List Frame), ∃ a' w', K a' w' ∧ Steps P (lone (b.atR a (.inRegion ops l :: k)) cs w) (lone (b.atR a' k) cs w') := by
  induction l with
  | nil => intro a w h k cs; exact ⟨a, w, h, .one stepR_region_end⟩
  | cons i rest ih =>
    intro a w h k cs
    simp only [OpsW, OpW] at h
    cases ho : ops[i]? with
    | none =>
      simp only [ho] at h
      obtain ⟨a', w', hK, hs⟩ := ih a w h k cs
      have h1 := stepR_op_skip (P := P) (b := b) (a := a) (k := k) (cs := cs) (w := w) (ops := ops) (i := i) (rest := rest) (by simp [ho])
      simp only [ho, Option.bind_none, Act.put] at h1
      exact ⟨a', w', hK, .head h1 hs⟩
    | some o =>
      simp only [ho] at h
      by_cases hw : Region.wanted o (yielded ops a.tmps) = true
      · rw [if_pos hw] at h
        have hg := stepGR_op (P := P) (b := b) (k := k) (cs := cs) (w := w) (rest := rest) ho hw
        have hfin : ∀ v, (b.atR a (.inRegion ops (i :: rest) :: k)).finish v = b.atR (a.put o.dst v) (.inRegion ops rest :: k) := by
          intro v; rw [Frame.finish_atR, ho]; rfl
        generalize hr : (o.semAt b.roundOf a.eval).run P w = r at h
        unfold NextDo at h
        split at h
        · rename_i v w'
          obtain ⟨a', w'', hK, hs⟩ := ih _ _ h k cs
          refine ⟨a', w'', hK, .head (step_lone_go ?_) hs⟩
          rw [hg]; simp only [stepG.apply, Sem.runT_eq, hr, GStep.bare_after]
          exact congrArg (fun fr => GStep.go { frame := fr, callers := cs, status := .running, dying := none } w') (hfin v)
        · rename_i w'
          obtain ⟨a', w'', hK, hs⟩ := ih _ _ h k cs
          refine ⟨a', w'', hK, .head (step_lone_go ?_) hs⟩
          rw [hg]; simp only [stepG.apply, Sem.runT_eq, hr, GStep.bare_after]
          exact congrArg (fun fr => GStep.go { frame := fr, callers := cs, status := .running, dying := none } w') (hfin undef)
        · rename_i f args w'
          obtain ⟨v, w2, hR, hsteps⟩ := h (b.atR a (.inRegion ops (i :: rest) :: k)) cs
          obtain ⟨a', w'', hK, hs⟩ := ih _ _ hR k cs
          rw [hfin] at hsteps
          refine ⟨a', w'', hK, .head (step_lone_go ?_) (hsteps.trans hs)⟩
          rw [hg]; simp [stepG.apply, hr, Frame.atR]
        · rename_i row args w'
          obtain ⟨v, w2, hR, hsteps⟩ := h (b.atR a (.inRegion ops (i :: rest) :: k)) cs
          obtain ⟨a', w'', hK, hs⟩ := ih _ _ hR k cs
          rw [hfin] at hsteps
          refine ⟨a', w'', hK, .head (step_lone_go ?_) (hsteps.trans hs)⟩
          rw [hg]; simp [stepG.apply, hr, Frame.atR]
        · rename_i l f tmps assign body w'
          obtain ⟨v, w2, hR, hsteps⟩ := h (b.atR a (.inRegion ops (i :: rest) :: k)) cs
          obtain ⟨a', w'', hK, hs⟩ := ih _ _ hR k cs
          rw [hfin] at hsteps
          refine ⟨a', w'', hK, .head (step_lone_go ?_) (hsteps.trans hs)⟩
          rw [hg]; simp [stepG.apply, hr, Frame.atR]
        · rename_i d w'
          obtain ⟨hro, h⟩ := h
          obtain ⟨a', w'', hK, hs⟩ := ih _ _ h k cs
          refine ⟨a', w'', hK, .head (step_lone_go ?_) hs⟩
          have : ({ b.atR a (.inRegion ops (i :: rest) :: k) with defers := d :: a.defers } : Frame).finish undef =
              b.atR ({ a with defers := d :: a.defers }.put o.dst undef) (.inRegion ops rest :: k) := by
            have := Frame.finish_atR b { a with defers := d :: a.defers } ops i rest k undef
            rw [ho] at this; exact this
          rw [hg]; simp only [stepG.apply, Sem.runT_eq, hr, GStep.bare_after]
          exact congrArg (fun fr => GStep.go { frame := fr, callers := cs, status := .running, dying := none } w') this
        · exact h.elim
      · rw [if_neg hw] at h
        obtain ⟨a', w', hK, hs⟩ := ih _ _ h k cs
        have h1 := stepR_op_skip (P := P) (b := b) (a := a) (k := k) (cs := cs) (w := w) (ops := ops) (i := i) (rest := rest) (by simp [ho]; simpa using hw)
        simp only [ho, Option.bind_some] at h1
        exact ⟨a', w', hK, .head h1 hs⟩

/-! ### code -/

inductive Ex where
  | normal
  | exit (id : Nat)
  | ret

/-- What has been come to, the rest of the work being k. -/
def Arr (P : Program) (m : Machine) (b : Frame) (k : List Item) (cs : List Frame) : Ex → Act → World → Prop
  | .normal, a, w => Steps P m (lone (b.atR a k) cs w)
  | .exit id, a, w => ∃ k0, exitTo id k0 = none ∧ Steps P m (lone (b.atR a (.code (.exit id) :: (k0 ++ k))) cs w)
  | .ret, a, w => ∃ k0, Steps P m (lone (b.atR a (.code .ret :: k0)) cs w)

theorem Arr.of_steps {P : Program} {m m₁ : Machine} {b : Frame} {k : List Item} {cs : List Frame} {e : Ex} {a : Act} {w : World}
    (h : Steps P m m₁) (h' : Arr P m₁ b k cs e a w) : Arr P m b k cs e a w := by
  cases e with
  | normal => exact h.trans h'
  | exit id => obtain ⟨k0, h0, hs⟩ := h'; exact ⟨k0, h0, h.trans hs⟩
  | ret => obtain ⟨k0, hs⟩ := h'; exact ⟨k0, h.trans hs⟩

theorem exitTo_append {id : Nat} : ∀ (k0 k : List Item), exitTo id k0 = none → exitTo id (k0 ++ k) = exitTo id k
  | [], _, _ => rfl
  | x :: k0, k, h => by
    cases x <;> simp only [List.cons_append, exitTo] at h ⊢ <;> first | exact exitTo_append k0 k h | skip
    rename_i id'
    by_cases hid : (id' == id) = true
    · simp [hid] at h
    · simp only [hid, Bool.false_eq_true, if_false] at h ⊢
      exact exitTo_append k0 k h

theorem exitTo_snoc {id : Nat} {x : Item} (hx : exitTo id [x] = none) : ∀ (k0 : List Item), exitTo id k0 = none → exitTo id (k0 ++ [x]) = none := by
  intro k0 h
  rw [exitTo_append _ _ h]; exact hx

/-- what is not come to normally goes past an item that catches no such exit -/
theorem Arr.past {P : Program} {m : Machine} {b : Frame} {x : Item} {k : List Item} {cs : List Frame} {e : Ex} {a : Act} {w : World}
    (hx : ∀ id, e = .exit id → exitTo id [x] = none) (he : e ≠ .normal) (h : Arr P m b (x :: k) cs e a w) : Arr P m b k cs e a w := by
  cases e with
  | normal => exact absurd rfl he
  | exit id =>
    obtain ⟨k0, h0, hs⟩ := h
    refine ⟨k0 ++ [x], exitTo_snoc (hx id rfl) k0 h0, ?_⟩
    simpa using hs
  | ret => exact h

/-- WHAT A PIECE OF CODE BRINGS ABOUT: from every state of the work behind it. -/
def Cw (P : Program) (b : Frame) (c : Code) (K : Ex → Act → World → Prop) (a : Act) (w : World) : Prop :=
  ∀ (k : List Item) (cs : List Frame), ∃ e a' w', K e a' w' ∧ Arr P (lone (b.atR a (.code c :: k)) cs w) b k cs e a' w'

section rules
variable {P : Program} {b : Frame} {K : Ex → Act → World → Prop} {a : Act} {w : World}

theorem Cw.mono {c : Code} {K' : Ex → Act → World → Prop} (h : Cw P b c K a w) (hk : ∀ e a w, K e a w → K' e a w) : Cw P b c K' a w :=
  fun k cs => let ⟨e, a', w', q, r⟩ := h k cs; ⟨e, a', w', hk _ _ _ q, r⟩

theorem cw_skip (h : K .normal a w) : Cw P b .skip K a w := fun _ _ => ⟨.normal, a, w, h, .one stepR_skip⟩
theorem cw_label {l : Nat} (h : K .normal a w) : Cw P b (.label l) K a w := fun _ _ => ⟨.normal, a, w, h, .one stepR_label⟩
theorem cw_exit {id : Nat} (h : K (.exit id) a w) : Cw P b (.exit id) K a w := fun _ _ => ⟨.exit id, a, w, h, [], rfl, .refl _ _⟩
theorem cw_ret (h : K .ret a w) : Cw P b .ret K a w := fun k _ => ⟨.ret, a, w, h, k, .refl _ _⟩

/-- behind the first part -/
def Ex.seq (next : Act → World → Prop) (K : Ex → Act → World → Prop) : Ex → Act → World → Prop
  | .normal, a, w => next a w
  | e, a, w => K e a w

theorem cw_seq {x y : Code} (h : Cw P b x (Ex.seq (Cw P b y K) K) a w) : Cw P b (.seq x y) K a w := by
  intro k cs
  obtain ⟨e, a₁, w₁, hq, harr⟩ := h (.code y :: k) cs
  cases e with
  | normal =>
    obtain ⟨e₂, a₂, w₂, hq₂, harr₂⟩ := hq k cs
    exact ⟨e₂, a₂, w₂, hq₂, .of_steps (.head stepR_seq harr) harr₂⟩
  | exit id => exact ⟨_, a₁, w₁, hq, .of_steps (.one stepR_seq) (.past (x := .code y) (fun _ _ => rfl) (by simp) harr)⟩
  | ret => exact ⟨_, a₁, w₁, hq, .of_steps (.one stepR_seq) (.past (x := .code y) (fun _ _ => rfl) (by simp) harr)⟩

theorem cw_cond {c : Operand} {x y : Code} {t : Bool} (hc : a.eval c = .bool t) (h : Cw P b (if t then x else y) K a w) : Cw P b (.cond c x y) K a w :=
  fun k cs => let ⟨e, a', w', q, r⟩ := h k cs; ⟨e, a', w', q, .of_steps (.one (stepR_cond hc)) r⟩

def Ex.block (id : Nat) (K : Ex → Act → World → Prop) : Ex → Act → World → Prop
  | .exit id', a, w => if id' = id then K .normal a w else K (.exit id') a w
  | e, a, w => K e a w

theorem cw_block {id : Nat} {c : Code} (h : Cw P b c (Ex.block id K) a w) : Cw P b (.block id c) K a w := by
  intro k cs
  obtain ⟨e, a₁, w₁, hq, harr⟩ := h (.inBlock id :: k) cs
  cases e with
  | normal => exact ⟨.normal, a₁, w₁, hq, .head stepR_block (Steps.trans harr (.one stepR_inBlock))⟩
  | exit id' =>
    by_cases hid : id' = id
    · subst hid
      simp only [Ex.block, if_true] at hq
      obtain ⟨k0, h0, hs⟩ := harr
      refine ⟨.normal, a₁, w₁, hq, .head stepR_block (Steps.trans hs (.one (stepR_exit ?_)))⟩
      rw [exitTo_append _ _ h0]; simp [exitTo]
    · simp only [Ex.block, hid, if_false] at hq
      refine ⟨.exit id', a₁, w₁, hq, .of_steps (.one stepR_block) (.past (x := .inBlock id) ?_ (by simp) harr)⟩
      rintro _ ⟨⟩
      have : (id == id') = false := by simp; exact fun h => hid h.symm
      simp [exitTo, this]
  | ret => exact ⟨_, a₁, w₁, hq, .of_steps (.one stepR_block) (.past (x := .inBlock id) (by rintro _ ⟨⟩) (by simp) harr)⟩

theorem cw_loop {c : Code} (I : Act → World → Prop) (μ : Act → World → Nat) (h₀ : I a w)
    (round : ∀ a w, I a w → Cw P b c (Ex.seq (fun a' w' => I a' w' ∧ μ a' w' < μ a w) K) a w) : Cw P b (.loop c) K a w := by
  intro k cs
  have key : ∀ n a w, μ a w = n → I a w →
      ∃ e a' w', K e a' w' ∧ Arr P (lone (b.atR a (.code c :: .inLoop c :: k)) cs w) b k cs e a' w' := by
    intro n
    induction n using Nat.strongRecOn with
    | _ n ih =>
      intro a w hn hI
      obtain ⟨e, a₁, w₁, hq, harr⟩ := round a w hI (.inLoop c :: k) cs
      cases e with
      | normal =>
        obtain ⟨hI₁, hlt⟩ := hq
        obtain ⟨e₂, a₂, w₂, hq₂, harr₂⟩ := ih (μ a₁ w₁) (hn ▸ hlt) a₁ w₁ rfl hI₁
        exact ⟨e₂, a₂, w₂, hq₂, .of_steps (Steps.trans harr (.one stepR_inLoop)) harr₂⟩
      | exit id => exact ⟨_, a₁, w₁, hq, .past (x := .inLoop c) (fun _ _ => rfl) (by simp) harr⟩
      | ret => exact ⟨_, a₁, w₁, hq, .past (x := .inLoop c) (fun _ _ => rfl) (by simp) harr⟩
  obtain ⟨e, a', w', hq, harr⟩ := key _ a w rfl h₀
  exact ⟨e, a', w', hq, .of_steps (.one stepR_loop) harr⟩

theorem cw_region {id : Nat} {ops : Array Oper} (h : OpsW P b.roundOf ops (K .normal) (List.range ops.size) a w) : Cw P b (.region id ops false) K a w := by
  intro k cs
  obtain ⟨a', w', hK, hs⟩ := ops_sound _ a w h k cs
  exact ⟨.normal, a', w', hK, .head stepR_region hs⟩

theorem cw_region_draw {id : Nat} {ops : Array Oper} (h : ∀ t, OpsW P b.roundOf ops (K .normal) (Region.schedule (P.follows .mixedOrders) ops t) a { w with drawn := w.drawn + 1 }) :
    Cw P b (.region id ops true) K a w := by
  intro k cs
  obtain ⟨a', w', hK, hs⟩ := ops_sound _ a _ (h _) k cs
  exact ⟨.normal, a', w', hK, .head stepR_region_draw hs⟩
end rules

/-! ### whatever order is drawn -/

def AnyW (P : Program) (ro : Option Nat) (ops : Array Oper) (K : Act → World → Prop) : Nat → Array Bool → Act → World → Prop
  | 0, _, a, w => K a w
  | fuel + 1, listed, a, w => (Region.ready .any ops listed = [] → K a w) ∧ ∀ i ∈ Region.ready .any ops listed, OpW P ro ops i (AnyW P ro ops K fuel (listed.setIfInBounds i true)) a w

theorem AnyW.sound {P : Program} {ro : Option Nat} {ops : Array Oper} {K : Act → World → Prop} : ∀ (fuel t : Nat) (listed : Array Bool) (a : Act) (w : World), AnyW P ro ops K fuel listed a w →
    OpsW P ro ops K (Region.linearise.go .any ops fuel t listed []) a w := by
  intro fuel
  induction fuel with
  | zero => intro t listed a w h; simpa [Region.linearise.go, OpsW, AnyW] using h
  | succ fuel ih =>
    intro t listed a w h
    obtain ⟨h₀, h₁⟩ := h
    simp only [Region.linearise.go]
    change OpsW P ro ops K (match (Region.ready .any ops listed)[t % (Region.ready .any ops listed).length]? with
      | some i => Region.linearise.go .any ops fuel (t / (Region.ready .any ops listed).length) (listed.setIfInBounds i true) [i]
      | none => [].reverse) a w
    cases hi : (Region.ready .any ops listed)[t % (Region.ready .any ops listed).length]? with
    | none =>
      have hnil : Region.ready .any ops listed = [] := by
        cases hr : Region.ready .any ops listed with
        | nil => rfl
        | cons x xs =>
          rw [hr] at hi
          have hlt : t % (x :: xs).length < (x :: xs).length := Nat.mod_lt _ (by simp)
          simp at hi
          simp at hlt
          omega
      simpa [OpsW] using h₀ hnil
    | some i =>
      simp only []
      rw [linearise_go_acc, List.reverse_singleton, List.singleton_append]
      simp only [OpsW]
      exact OpW.mono (fun a w => ih _ _ a w) (h₁ i (List.mem_of_getElem? hi))

theorem cw_region_any {P : Program} {b : Frame} {K : Ex → Act → World → Prop} {a : Act} {w : World} {id : Nat} {ops : Array Oper} (hm : P.follows .mixedOrders = true)
    (h : AnyW P b.roundOf ops (K .normal) ops.size (Array.replicate ops.size false) a { w with drawn := w.drawn + 1 }) : Cw P b (.region id ops true) K a w :=
  cw_region_draw fun t => by
    simp only [Region.schedule, hm, Bool.true_or, if_true]
    exact AnyW.sound ops.size t _ a _ h
end Go.Dn
