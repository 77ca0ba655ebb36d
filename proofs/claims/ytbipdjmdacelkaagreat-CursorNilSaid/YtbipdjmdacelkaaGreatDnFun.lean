/- The evaluator is sound: code, functions. -/
import Derived.Test.YtbipdjmdacelkaaGreatDnAlt
import Derived.RangeFuncLeaves
namespace Go.Dn
open Go

/-! ### the checks, said of lists -/

def tmpsOf : List Operand → List Nat
  | [] => []
  | .tmp t :: l => t :: tmpsOf l
  | _ :: l => tmpsOf l

section lists
variable (ops : List Oper)

def dstL (i : Nat) : Option Nat := match nth ops i with | some o => o.dst | none => none
def looksOf (o : Oper) : List Nat :=
  tmpsOf o.op.operands.toList ++ (match o.guard with | some (g, _) => (match dstL ops g with | some d => [d] | none => []) | none => [])
def looksL (i : Nat) : List Nat := match nth ops i with | some o => looksOf ops o | none => []
def waitsL (j i : Nat) : Bool := match nth ops j with | some o => o.after.toList.any fun e => Region.binds .any e && Nat.beq e.on i | none => false
def apartL (i j : Nat) : Bool := (match dstL ops i with | some d => !memN d (looksL ops j) | none => true) && (match dstL ops j with | some d => !memN d (looksL ops i) | none => true)
def hasL (done : List (Nat × Bool)) (i : Nat) : Bool := done.any fun x => Nat.beq x.1 i
def readyInL (done : List (Nat × Bool)) (i : Nat) : Bool := match nth ops i with | some o => o.after.toList.all fun e => !Region.binds .any e || hasL done e.on | none => false
def selfL (i : Nat) : Bool := match dstL ops i with | some d => !memN d (looksL ops i) | none => true
/-- the numbers below -/
def belowL : Nat → (Nat → Bool) → Bool
  | 0, _ => true
  | n + 1, p => p n && belowL n p

def canonOkL (n : Nat) : List (Nat × Bool) → List (Nat × Bool) → Bool
  | [], done => belowL n fun i => hasL done i
  | (i, loud) :: cs, done =>
    Nat.ble (i + 1) n && !(hasL done i) && readyInL ops done i && (done.all fun u => waitsL ops i u.1 || apartL ops u.1 i) && selfL ops i &&
    (!loud || (belowL n fun j => Nat.beq j i || hasL done j || !readyInL ops done j)) && canonOkL n cs ((i, loud) :: done)

def opOkL (n i : Nat) (done : List (Nat × Bool)) : Bool :=
  Nat.ble (i + 1) n && !(hasL done i) && readyInL ops done i && (done.all fun u => waitsL ops i u.1 || apartL ops u.1 i) && selfL ops i
def onlyOkL (n : Nat) (hd : List Nat) (done : List (Nat × Bool)) : Bool := belowL n fun j => memN j hd || hasL done j || !readyInL ops done j
def altOkL (n : Nat) : Bool → AT → List (Nat × Bool) → Bool
  | top, .nil, done => top && belowL n fun i => hasL done i
  | top, .op i false rest, done => top && (opOkL ops n i done && altOkL n true rest ((i, false) :: done))
  | top, .op i true rest, done => (!top || onlyOkL ops n [i] done) && (opOkL ops n i done && altOkL n true rest ((i, true) :: done))
  | top, .alt a b, done => (!top || onlyOkL ops n (a.heads ++ b.heads) done) && (altOkL n false a done && altOkL n false b done)

def uniqL : List Oper → Bool
  | [] => true
  | o :: l => (match o.dst with | some d => (l.all fun o' => match o'.dst with | some d' => !Nat.beq d d' | none => true) | none => true) && uniqL l
def backL : Nat → List Oper → Bool
  | _, [] => true
  | i, o :: l => (o.after.toList.all fun e => !Region.binds .any e || Nat.ble (e.on + 1) i) && backL (i + 1) l
def plainL : List Oper → Bool
  | [] => true
  | o :: l => (match o.op with | .select .. => false | .defer _ => false | _ => true) && plainL l
def regionOkL : Bool := uniqL ops && (backL 0 ops && plainL ops)
end lists

section eqs
variable {ops : Array Oper}

theorem beq_eq' (a b : Nat) : Nat.beq a b = (a == b) := by
  cases h : Nat.beq a b with
  | false => exact (beq_eq_false_iff_ne.2 (beq_false' h)).symm
  | true => exact (beq_iff_eq.2 (beq_true' h)).symm
theorem ble_eq' (a b : Nat) : Nat.ble (a + 1) b = decide (a < b) := by
  by_cases h : a < b
  · rw [ble_true h]; simp [h]
  · rw [ble_false h]; simp [h]
theorem memN_contains (d : Nat) (l : List Nat) : memN d l = l.contains d := by
  cases h : memN d l with
  | true => exact (List.contains_iff_mem.2 (memN_iff.1 h)).symm
  | false =>
    have := memN_false.1 h
    cases hc : l.contains d with
    | false => rfl
    | true => exact absurd (List.contains_iff_mem.1 hc) this
theorem tmpsOf_eq : ∀ l : List Operand, (l.filterMap fun | .tmp t => some t | _ => none) = tmpsOf l
  | [] => rfl
  | .tmp t :: l => by simp [tmpsOf, tmpsOf_eq l]
  | .const v :: l => by simp [tmpsOf, tmpsOf_eq l]
  | .global g :: l => by simp [tmpsOf, tmpsOf_eq l]
  | .func f :: l => by simp [tmpsOf, tmpsOf_eq l]
theorem dstL_eq (i : Nat) : dstL ops.toList i = dstOf ops i := by
  simp only [dstL, dstOf, nth_eq, Array.getElem?_toList]
  cases ops[i]? <;> rfl
theorem looksOf_eq (o : Oper) : looksOf ops.toList o = o.looksAt ops := by
  unfold looksOf Oper.looksAt
  refine congr (congrArg HAppend.hAppend (tmpsOf_eq _).symm) ?_
  cases o.guard with
  | none => rfl
  | some gw =>
    obtain ⟨g, wt⟩ := gw
    simp only [dstL_eq, dstOf]
    cases (ops[g]?).bind (·.dst) <;> rfl
theorem looksL_eq (i : Nat) : looksL ops.toList i = looks ops i := by
  simp only [looksL, looks, nth_eq, Array.getElem?_toList]
  cases ops[i]? with
  | none => rfl
  | some o => exact looksOf_eq o
theorem waitsL_eq (j i : Nat) : waitsL ops.toList j i = waits ops j i := by
  simp only [waitsL, waits, nth_eq, Array.getElem?_toList, beq_eq']
  cases ops[j]? with
  | none => rfl
  | some o => simp
theorem apartL_eq (i j : Nat) : apartL ops.toList i j = apartAt ops i j := by
  simp only [apartL, apartAt, dstL_eq, looksL_eq, memN_contains]
  rfl
theorem hasL_eq (done : List (Nat × Bool)) (i : Nat) : hasL done i = done.any (·.1 == i) := by simp only [hasL, beq_eq']
theorem readyInL_eq (done : List (Nat × Bool)) (i : Nat) : readyInL ops.toList done i = readyIn ops done i := by
  simp only [readyInL, readyIn, nth_eq, Array.getElem?_toList, hasL_eq]
  cases ops[i]? with
  | none => rfl
  | some o => simp
theorem selfL_eq (i : Nat) : selfL ops.toList i = selfOk ops i := by
  simp only [selfL, selfOk, dstL_eq, looksL_eq, memN_contains]
  rfl
theorem belowL_eq (p : Nat → Bool) : ∀ n, belowL n p = (List.range n).all p
  | 0 => rfl
  | n + 1 => by rw [List.range_succ, List.all_append, belowL, belowL_eq p n]; simp [Bool.and_comm]
theorem canonOkL_eq : ∀ (cs done : List (Nat × Bool)), canonOkL ops.toList ops.size cs done = canonOk ops cs done
  | [], done => by simp only [canonOkL, canonOk, belowL_eq, hasL_eq]
  | (i, loud) :: cs, done => by
    simp only [canonOkL, canonOk, canonOkL_eq cs, belowL_eq, hasL_eq, readyInL_eq, waitsL_eq, apartL_eq, selfL_eq, ble_eq', beq_eq']

theorem opOkL_eq (i : Nat) (done : List (Nat × Bool)) : opOkL ops.toList ops.size i done = opOk ops i done := by
  simp only [opOkL, opOk, hasL_eq, readyInL_eq, waitsL_eq, apartL_eq, selfL_eq, ble_eq']
theorem onlyOkL_eq (hd : List Nat) (done : List (Nat × Bool)) : onlyOkL ops.toList ops.size hd done = onlyOk ops hd done := by
  simp only [onlyOkL, onlyOk, belowL_eq, hasL_eq, readyInL_eq, memN_contains]
theorem altOkL_eq : ∀ (t : AT) (top : Bool) (done : List (Nat × Bool)), altOkL ops.toList ops.size top t done = altOk ops top t done
  | .nil, top, done => by simp only [altOkL, altOk, belowL_eq, hasL_eq]
  | .op i false rest, top, done => by simp only [altOkL, altOk, opOkL_eq, altOkL_eq rest]
  | .op i true rest, top, done => by simp only [altOkL, altOk, opOkL_eq, onlyOkL_eq, altOkL_eq rest]
  | .alt a b, top, done => by simp only [altOkL, altOk, onlyOkL_eq, altOkL_eq a, altOkL_eq b]

theorem uniqL_spec : ∀ {l : List Oper}, uniqL l = true → ∀ (i j : Nat) (a b : Oper) (x : Nat), l[i]? = some a → l[j]? = some b → a.dst = some x → b.dst = some x → i = j
  | [], _, i, j, a, b, x, ha, _, _, _ => by simp at ha
  | o :: l, h, i, j, a, b, x, ha, hb, hax, hbx => by
    simp only [uniqL, Bool.and_eq_true] at h
    have key : ∀ {k : Nat} {c : Oper}, l[k]? = some c → c.dst = some x → o.dst = some x → False := by
      intro k c hc hcx hox
      rw [hox] at h
      have := List.all_eq_true.1 h.1 c (List.mem_of_getElem? hc)
      rw [hcx] at this
      simp only [Bool.not_eq_true'] at this
      exact beq_false' this rfl
    cases i with
    | zero =>
      cases j with
      | zero => rfl
      | succ j =>
        simp only [List.getElem?_cons_zero, Option.some.injEq] at ha; subst ha
        simp only [List.getElem?_cons_succ] at hb
        exact (key hb hbx hax).elim
    | succ i =>
      cases j with
      | zero =>
        simp only [List.getElem?_cons_zero, Option.some.injEq] at hb; subst hb
        simp only [List.getElem?_cons_succ] at ha
        exact (key ha hax hbx).elim
      | succ j =>
        simp only [List.getElem?_cons_succ] at ha hb
        exact congrArg (· + 1) (uniqL_spec h.2 i j a b x ha hb hax hbx)
theorem backL_spec : ∀ {l : List Oper} {k : Nat}, backL k l = true → ∀ (i : Nat) (o : Oper), l[i]? = some o → ∀ e ∈ o.after, Region.binds .any e = true → e.on < k + i
  | [], _, _, i, o', ho, _, _, _ => by simp at ho
  | o :: l, k, h, i, o', ho, e, he, hb => by
    simp only [backL, Bool.and_eq_true] at h
    cases i with
    | zero =>
      simp only [List.getElem?_cons_zero, Option.some.injEq] at ho; subst ho
      have := List.all_eq_true.1 h.1 e (by simpa using he)
      rw [hb] at this
      simpa [ble_eq'] using this
    | succ i =>
      simp only [List.getElem?_cons_succ] at ho
      have := backL_spec h.2 i o' ho e he hb
      omega
theorem plainL_spec : ∀ {l : List Oper}, plainL l = true → ∀ (i : Nat) (o : Oper), l[i]? = some o → (∀ cs b, o.op ≠ .select cs b) ∧ ∀ c, o.op ≠ .defer c
  | [], _, i, o', ho => by simp at ho
  | o :: l, h, i, o', ho => by
    simp only [plainL, Bool.and_eq_true] at h
    cases i with
    | zero =>
      simp only [List.getElem?_cons_zero, Option.some.injEq] at ho; subst ho
      constructor
      · intro cs b e; simp [e] at h
      · intro c e; simp [e] at h
    | succ i =>
      simp only [List.getElem?_cons_succ] at ho
      exact plainL_spec h.2 i o' ho

theorem regionOkL_spec (h : regionOkL ops.toList = true) : RegionOk ops := by
  simp only [regionOkL, Bool.and_eq_true] at h
  obtain ⟨h1, h2, h3⟩ := h
  refine ⟨?_, ?_, ?_⟩
  · intro i j x hi hj hdi hdj
    have ei : ops.toList[i]? = some ops[i] := by simp [hi]
    have ej : ops.toList[j]? = some ops[j] := by simp [hj]
    refine uniqL_spec h1 i j _ _ x ei ej ?_ ?_
    · rw [← dstOf_eq (Array.getElem?_eq_getElem hi)]; exact hdi
    · rw [← dstOf_eq (Array.getElem?_eq_getElem hj)]; exact hdj
  · intro i o ho e he hb
    have := backL_spec h2 i o (by simpa using ho) e he hb
    omega
  · intro i o ho
    exact plainL_spec h3 i o (by simpa using ho)
end eqs

/-! ### code -/

theorem cw_scope {P : Program} {b : Frame} {c : Code} {K : Ex → Act → World → Prop} {a : Act} {w : World} (h : Cw P b c K a w) : Cw P b (.scope c) K a w := by
  intro k cs
  obtain ⟨e, a₁, w₁, hq, harr⟩ := h (.inScope c :: k) cs
  have h1 : step P (lone (b.atR a (.code (.scope c) :: k)) cs w) = .next (lone (b.atR a (.code c :: .inScope c :: k)) cs w) := step_lone_go (by simp [stepG, stepG.exec, Frame.atR])
  have h2 : ∀ a w, step P (lone (b.atR a (.inScope c :: k)) cs w) = .next (lone (b.atR a k) cs w) := fun a w => step_lone_go (by simp [stepG, stepG.exec, Frame.atR])
  cases e with
  | normal => exact ⟨.normal, a₁, w₁, hq, .head h1 (Steps.trans harr (.one (h2 _ _)))⟩
  | exit id => exact ⟨_, a₁, w₁, hq, .of_steps (.one h1) (.past (x := .inScope c) (fun _ _ => rfl) (by simp) harr)⟩
  | ret => exact ⟨_, a₁, w₁, hq, .of_steps (.one h1) (.past (x := .inScope c) (fun _ _ => rfl) (by simp) harr)⟩

theorem cw_loopN {P : Program} {b : Frame} {c : Code} {K : Ex → Act → World → Prop} {a : Act} {w : World} (I : Nat → Act → World → Prop) {m₀ : Nat} (h₀ : I m₀ a w)
    (round : ∀ m a w, I m a w → Cw P b c (Ex.seq (fun a' w' => ∃ m', m' < m ∧ I m' a' w') K) a w) : Cw P b (.loop c) K a w := by
  intro k cs
  have key : ∀ n a w, I n a w →
      ∃ e a' w', K e a' w' ∧ Arr P (lone (b.atR a (.code c :: .inLoop c :: k)) cs w) b k cs e a' w' := by
    intro n
    induction n using Nat.strongRecOn with
    | _ n ih =>
      intro a w hI
      obtain ⟨e, a₁, w₁, hq, harr⟩ := round n a w hI (.inLoop c :: k) cs
      cases e with
      | normal =>
        obtain ⟨m', hlt, hI₁⟩ := hq
        obtain ⟨e₂, a₂, w₂, hq₂, harr₂⟩ := ih m' hlt a₁ w₁ hI₁
        exact ⟨e₂, a₂, w₂, hq₂, .of_steps (Steps.trans harr (.one stepR_inLoop)) harr₂⟩
      | exit id => exact ⟨_, a₁, w₁, hq, .past (x := .inLoop c) (fun _ _ => rfl) (by simp) harr⟩
      | ret => exact ⟨_, a₁, w₁, hq, .past (x := .inLoop c) (fun _ _ => rfl) (by simp) harr⟩
  obtain ⟨e, a', w', hq, harr⟩ := key _ a w h₀
  exact ⟨e, a', w', hq, .of_steps (.one stepR_loop) harr⟩

section code
variable (P : Program) (T : Tab)

def treeN (id : Nat) (ops : List Oper) : RT := match findR T.R id with | none => chainR (textOrder ops) | some r => r
def treeD (id : Nat) (ops : List Oper) : RT := match findR T.R id with | none => chainR (canonOrder P (number 0 ops) ops.length []) | some r => r
def specAt (L : List (Nat × Spec)) (i : Nat) : List Nat := match findS L i with | some s => s.all | none => []

/-- no loop over a function within -/
def noRF : Code → Bool
  | .rangeFunc _ _ _ _ => false
  | .seq a b => noRF a && noRF b
  | .cond _ a b => noRF a && noRF b
  | .block _ b => noRF b
  | .loop b => noRF b
  | .scope b => noRF b
  | _ => true
def freshN : List Nat → Bool
  | [] => true
  | i :: l => !memN i l && freshN l
/-- more than one order must be gone through -/
def isAlts (id : Nat) : Bool := match findR T.R id with | some .nil => true | _ => false
/-- the temporaries that the code writes -/
def wr : Code → List Nat
  | .region id ops false => wrT ops.toList (treeN T id ops.toList)
  | .region id ops true => bif isAlts T id then wrA ops.toList (altTree P (number 0 ops.toList) ops.toList.length []) else wrT ops.toList (treeD P T id ops.toList)
  | .seq a b => specAt T.J (firstReg b) ++ (wr a ++ wr b)
  | .cond _ a b => wr a ++ wr b
  | .block _ b => wr b
  | .scope b => wr b
  | .loop b => specAt T.L (firstReg b) ++ wr b
  | _ => []

def okC : Code → Bool
  | .region id ops false => okT ops.toList (treeN T id ops.toList)
  | .region id ops true => regionOkL ops.toList && (bif isAlts T id then altOkL ops.toList ops.toList.length true (altTree P (number 0 ops.toList) ops.toList.length []) [] else
      (canonOkL ops.toList ops.toList.length (treeD P T id ops.toList).flat [] && okT ops.toList (treeD P T id ops.toList)))
  | .seq a b => (match findS T.J (firstReg b) with | some s => subL (wr P T a) s.all | none => true) && (okC a && okC b)
  | .cond _ a b => okC a && okC b
  | .block _ b => okC b
  | .scope b => okC b
  | .loop b => (match findS T.L (firstReg b) with | some s => subL (wr P T b) s.all | none => true) && okC b
  | .rangeFunc _ _ assign body => (match findS T.L (firstReg body) with | some s => freshN (slotTmps s.slots) | none => true) && ((noRF assign && noRF body) && (okC assign && okC body))
  | _ => true
end code

/-! ### a loop over a function: its parameters -/
def updL : List Nat → List Value → Fr → Fr
  | i :: l, v :: vs, fr => updL l vs (upd fr i v)
  | _, _, fr => fr
theorem eqNats_eq : ∀ {l m : List Nat}, eqNats l m = true → l = m
  | [], [], _ => rfl
  | a :: l, b :: m, h => by
    simp only [eqNats, Bool.and_eq_true] at h
    rw [beq_true' h.1, eqNats_eq h.2]
  | [], _ :: _, h => by simp [eqNats] at h
  | _ :: _, [], h => by simp [eqNats] at h
theorem buildAll_length : ∀ (cs : List Cmp) (vs : List Value), (buildAll cs vs).length = cs.length
  | [], _ => rfl
  | c :: cs, vs => by simp only [buildAll, List.length_cons, buildAll_length cs]
theorem slot_lengths : ∀ l : List (Nat × Cmp), (slotTmps l).length = (slotCmps l).length
  | [] => rfl
  | (_, _) :: l => by simp only [slotTmps, slotCmps, List.length_cons, slot_lengths l]
theorem upd_comm (fr : Fr) {i j : Nat} (h : i ≠ j) (u v : Value) : upd (upd fr i u) j v = upd (upd fr j v) i u := by
  funext k
  by_cases h1 : k = i
  · subst h1; rw [upd_ne _ _ h, upd_at, upd_at]
  · by_cases h2 : k = j
    · subst h2; rw [upd_at, upd_ne _ _ h1, upd_at]
    · rw [upd_ne _ _ h2, upd_ne _ _ h1, upd_ne _ _ h1, upd_ne _ _ h2]
theorem updAll_upd {i : Nat} {v : Value} : ∀ (l : List (Nat × Cmp)) (vs : List Value) (fr : Fr), memN i (slotTmps l) = false → updAll l vs (upd fr i v) = upd (updAll l vs fr) i v
  | [], _, _, _ => rfl
  | (j, c) :: l, vs, fr, h => by
    simp only [slotTmps, memN, Bool.or_eq_false_iff] at h
    have hne : j ≠ i := fun e => by subst e; rw [Nat.beq_refl] at h; cases h.1
    simp only [updAll]
    rw [updAll_upd l _ _ h.2, upd_comm _ (fun e => hne e.symm)]
theorem updAll_L : ∀ (l : List (Nat × Cmp)) (vs : List Value) (fr : Fr), freshN (slotTmps l) = true → updAll l vs fr = updL (slotTmps l) (buildAll (slotCmps l) vs) fr
  | [], _, _, _ => rfl
  | (i, c) :: l, vs, fr, h => by
    simp only [slotTmps, freshN, Bool.and_eq_true, Bool.not_eq_true'] at h
    simp only [updAll, slotTmps, slotCmps, buildAll, updL]
    rw [← updAll_L l _ _ h.2, updAll_upd l _ _ h.1]
theorem Ag.params {n : Nat} : ∀ (ps : List Nat) (vs : List Value) {fr : Fr} {a : Act}, Ag n fr a → Ag n (updL ps vs fr) { a with tmps := (ps.zip vs).foldl (fun t p => t.setIfInBounds p.1 p.2) a.tmps }
  | [], _, _, _, g => by simpa [updL] using g
  | _ :: _, [], _, _, g => by simpa [updL] using g
  | i :: ps, v :: vs, fr, a, g => by
    have := Ag.params ps vs (g.put (some i) v)
    simpa [updL, updO, Act.put] using this
theorem allC_curry {R : Type} : ∀ (ls : List Leaf) (b : List Value → R) (g : List Value → R → Prop), (∀ vs, g vs (b vs)) → allC ls (curry ls b) g
  | [], b, g, h => h []
  | l :: ls, b, g, h => fun x => allC_curry ls (fun vs => b (l.enc x :: vs)) (fun vs r => g (l.enc x :: vs) r) fun vs => h _

section loops
variable {P : Program} {w : World} {l : Nat} {r : Loop}
theorem run_getLoop {st : LoopState} {pd : Option Code} (h : LoopIs w.heap l r st pd) : (Instr.getLoop l).run P w = .ok { r with state := st, pending := pd } w := by
  have h : w.heap[l]? = some (.loop { r with state := st, pending := pd }) := h
  simp [Instr.getLoop, getObj, Sem.run_bind, Sem.run, h, Sem.run_pure, Result.andThen_ok]
theorem run_setLoop {st st' : LoopState} {pd pd' : Option Code} (h : LoopIs w.heap l r st pd) : (setObj l (.loop { r with state := st', pending := pd' })).run P w = .ok () { w with heap := setLoop w.heap l r st' pd' } := by
  have h : w.heap[l]? = some (.loop { r with state := st, pending := pd }) := h
  simp [setObj, Sem.run, h, setLoop]
theorem run_beginRound {pd : Option Code} (h : LoopIs w.heap l r .ready pd) : (Instr.beginRound l).run P w = .ok () { w with heap := setLoop w.heap l r .busy pd } := by
  have := run_setLoop (P := P) (st' := .busy) (pd' := pd) h
  simp only [Instr.beginRound, Sem.run_bind, run_getLoop h, Result.andThen_ok, this, Sem.run_pure]
theorem run_endRound {st : LoopState} {pd : Option Code} (j : Option Code) (h : LoopIs w.heap l r st pd) : (Instr.endRound l j).run P w = .ok (.bool j.isNone) { w with heap := setLoop w.heap l r (if j.isNone then .ready else .done) j } := by
  have := run_setLoop (P := P) (st' := if j.isNone then .ready else .done) (pd' := j) h
  simp only [Instr.endRound, Sem.run_bind, run_getLoop h, Result.andThen_ok, this, Sem.run_pure]
theorem run_endLoop {st : LoopState} {pd : Option Code} (h : LoopIs w.heap l r st pd) (hb : st ≠ .busy) : (Instr.endLoop l).run P w = .ok pd { w with heap := setLoop w.heap l r .exhausted pd } := by
  have := run_setLoop (P := P) (st' := .exhausted) (pd' := pd) h
  have hb' : (st == LoopState.busy) = false := by cases st <;> first | rfl | exact absurd rfl hb
  simp only [Instr.endLoop, Sem.run_bind, run_getLoop h, Result.andThen_ok, hb', Bool.false_eq_true, if_false, this, Sem.run_pure]
end loops

theorem chainT_flat : ∀ (l : List (Nat × Bool)) (r : RT), (chainT l r).flat = l ++ r.flat
  | [], _ => rfl
  | (i, b) :: l, r => by simp [chainT, RT.flat, chainT_flat l r]
theorem number_fst {α : Type} : ∀ (l : List α) (k : Nat), (number k l).map Prod.fst = List.range' k l.length
  | [], _ => rfl
  | x :: l, k => by simp [number, number_fst l (k + 1), List.range'_succ]
theorem textOrder_fst (ops : List Oper) : (textOrder ops).map Prod.fst = List.range ops.length := by
  rw [textOrder, number_fst, List.range_eq_range']; simp
theorem eqOrder_eq : ∀ {l m : List (Nat × Bool)}, eqOrder l m = true → l = m
  | [], [], _ => rfl
  | (i, a) :: l, (j, b) :: m, h => by
    simp only [eqOrder, Bool.and_eq_true, beq_iff_eq] at h
    rw [beq_true' h.1.1, h.1.2, eqOrder_eq h.2]
  | [], _ :: _, h => by simp [eqOrder] at h
  | _ :: _, [], h => by simp [eqOrder] at h

section sound
variable {P : Program} {n : Nat} {T : Tab}

/-- what is shown of a piece of code -/
def Shows (n : Nat) (W : List Nat) (K : EK) (fr : Fr) (w : World) (e : Ex) (a' : Act) (w' : World) : Prop :=
  ∃ fr', Ag n fr' a' ∧ Same w w' ∧ K e fr' a'.defers w'.heap ∧ ∀ i, i ∉ W → fr' i = fr i

theorem evC_ok (hm : P.follows .mixedOrders = true) : ∀ (c : Code) {b : Frame}, okC P T c = true → (b.roundOf = none ∨ noRF c = true) → ∀ {K : EK} {fr : Fr} {a : Act} {w : World}, evC P n T c K fr a.defers w.heap → Ag n fr a →
    Cw P b c (Shows n (wr P T c) K fr w) a w
  | .skip, b, _, hr, K, fr, a, w, he, g => cw_skip ⟨fr, g, Same.refl _, he, fun _ _ => rfl⟩
  | .label _, b, _, hr, K, fr, a, w, he, g => cw_label ⟨fr, g, Same.refl _, he, fun _ _ => rfl⟩
  | .exit _, b, _, hr, K, fr, a, w, he, g => cw_exit ⟨fr, g, Same.refl _, he, fun _ _ => rfl⟩
  | .ret, b, _, hr, K, fr, a, w, he, g => cw_ret ⟨fr, g, Same.refl _, he, fun _ _ => rfl⟩
  | .rangeFunc f ps assign body, b, hok, hr, K, fr, a, w, he, g => by
    have hro : b.roundOf = none := hr.resolve_right fun h => by cases h
    simp only [okC, Bool.and_eq_true] at hok
    obtain ⟨hfr, ⟨hna, hnb⟩, hoa, hob⟩ := hok
    simp only [evC] at he
    split at he
    · exact he.elim
    rename_i s hf
    rw [hf] at hfr
    obtain ⟨heq, he⟩ := he.out
    have heq := eqNats_eq heq
    let r : Loop := { state := .ready, pending := none, fn := b.fn, tmps := a.tmps, params := ps, assign, body, defers := w.heap.size }
    let l := w.heap.size + 1
    let h1 : Mem := (w.heap.push (.deferred (some []))).push (.loop r)
    have he : RangeAt P (evv n fr f) l r h1 (slotCmps s.slots) _ _ _ _ (exitId body) := he r h1 rfl
    have spec := he fun h2 pd R hL => allC_curry _ _ _ fun vs hB => by
      -- a round
      intro w2 hw2
      subst hw2
      have hrun : (do let d ← Deferred.ofValue (.func (.yield l) #[] #[]) (buildAll (slotCmps s.slots) vs).toArray; invoke d.target d.args : Sem Next).run P w2 =
          .ok (.round l b.fn ((ps.toList.zip (buildAll (slotCmps s.slots) vs)).foldl (fun t p => t.setIfInBounds p.1 p.2) a.tmps) assign body) w2 := by
        have hsz : (buildAll (slotCmps s.slots) vs).length = ps.size := by
          rw [buildAll_length, ← slot_lengths, heq, Array.length_toList]
        simp only [Deferred.ofValue, Sem.run_bind, Sem.run_pure, Result.andThen_ok, invoke, Instr.yield, run_getLoop hL, Array.empty_append, List.size_toArray, hsz, r, ne_eq, not_true_eq_false, if_false]
        congr 2
        rw [← Array.foldl_toList, Array.toList_zip]
      rw [hrun]
      show FrDoes P _ _ _
      intro c cs
      let b' : Frame := { (default : Frame) with fn := b.fn, kind := .normal, roundOf := some l }
      let a1 : Act := { tmps := (ps.toList.zip (buildAll (slotCmps s.slots) vs)).foldl (fun t p => t.setIfInBounds p.1 p.2) a.tmps, defers := [] }
      have hfr0 : Frame.round l b.fn a1.tmps assign body .normal = b'.atR a1 [.code assign, .beginRound, .code body] := by simp [Frame.round, Frame.atR, b', a1]
      have g1 : Ag n (updAll s.slots vs fr) a1 := by
        rw [updAll_L _ _ _ hfr, heq]
        exact (Ag.params ps.toList _ g).defers []
      obtain ⟨e, a2, w3, ⟨fr2, g2, hs2, hK2, _⟩, harr⟩ := evC_ok hm assign (b := b') hoa (.inr hna) (a := a1) hB g1 [.beginRound, .code body] (c :: cs)
      show ∃ v w', (Same w2 w' ∧ Fits (fun k : Mem → Prop => k w'.heap) (.one (.leaf .bool)) v R) ∧ Steps P (lone (Frame.round l b.fn a1.tmps assign body .normal) (c :: cs) w2) (lone (c.finish v) cs w')
      rw [hfr0]
      cases e with
      | exit id => exact hK2.elim
      | ret => exact hK2.elim
      | normal =>
        obtain ⟨t2, ds2⟩ := a2
        cases ds2 with
        | cons d ds => exact hK2.elim
        | nil =>
        obtain ⟨pd2, hL3, hK2⟩ := hK2
        have hbg := run_beginRound (P := P) hL3
        have sbg : step P (lone (b'.atR ⟨t2, []⟩ [.beginRound, .code body]) (c :: cs) w3) = .next (lone (b'.atR ⟨t2, []⟩ [.code body]) (c :: cs) { w3 with heap := setLoop w3.heap l r .busy pd2 }) := stepR_beginRound rfl hbg
        obtain ⟨e4, a4, w4, ⟨fr4, g4, hs4, hK4, _⟩, harr4⟩ := evC_ok hm body (b := b') hob (.inr hnb) (a := ⟨t2, []⟩) (w := { w3 with heap := setLoop w3.heap l r .busy pd2 }) hK2 g2 [] (c :: cs)
        have hs : Same w2 w4 := hs2.trans (⟨hs4.os, hs4.tape, hs4.output⟩ : Same w3 w4)
        have pre := Steps.trans harr (Steps.head sbg (.refl _ _))
        have fin : ∀ (j : Option Code), (∃ st pd, LoopIs w4.heap l r st pd ∧ R j.isNone (setLoop w4.heap l r (if j.isNone then .ready else .done) j)) →
            ∃ w5, (Instr.endRound l j).run P w4 = .ok (.bool j.isNone) w5 ∧ Same w2 w5 ∧ Fits (fun k : Mem → Prop => k w5.heap) (.one (.leaf .bool)) (.bool j.isNone) R := fun j ⟨st, pd, h4, hR⟩ =>
          ⟨_, run_endRound j h4, ⟨hs.os, hs.tape, hs.output⟩, [.bool j.isNone], rfl, j.isNone, .bool _, hR⟩
        cases e4 with
        | normal =>
          cases hd4 : a4.defers with
          | cons d ds => rw [hd4] at hK4; exact hK4.elim
          | nil =>
          rw [hd4] at hK4
          obtain ⟨w5, h5, hs5, hf5⟩ := fin none hK4
          exact ⟨_, w5, ⟨hs5, hf5⟩, Steps.trans pre (Steps.trans harr4 (.one (stepR_round_end rfl rfl h5)))⟩
        | exit id =>
          cases hd4 : a4.defers with
          | cons d ds => rw [hd4] at hK4; exact hK4.elim
          | nil =>
          rw [hd4] at hK4
          cases hid : Nat.beq id (exitId body) with
          | false => simp only [hid, cond_false] at hK4
          | true =>
          simp only [hid, cond_true] at hK4
          have := beq_true' hid
          subst this
          obtain ⟨w5, h5, hs5, hf5⟩ := fin (some (.exit (exitId body))) hK4
          obtain ⟨k0, hk0, hst⟩ := harr4
          exact ⟨_, w5, ⟨hs5, hf5⟩, Steps.trans pre (Steps.trans hst (.one (stepR_round_exit rfl rfl (by simpa using hk0) h5)))⟩
        | ret =>
          cases hd4 : a4.defers with
          | cons d ds => rw [hd4] at hK4; exact hK4.elim
          | nil =>
          rw [hd4] at hK4
          obtain ⟨w5, h5, hs5, hf5⟩ := fin (some .ret) hK4
          obtain ⟨k0, hst⟩ := harr4
          exact ⟨_, w5, ⟨hs5, hf5⟩, Steps.trans pre (Steps.trans hst (.one (stepR_round_ret rfl rfl h5)))⟩
    -- the statement
    intro k cs
    let w1 : World := { w with heap := h1 }
    have hent : (Instr.enterLoop b.fn a.tmps ps assign body b.roundOf).run P w = .ok (l, [markOf w.heap]) w1 := by
      rw [hro]
      simp [Instr.enterLoop, newObj, Sem.run_bind, Sem.run, Result.andThen_ok, w1, h1, r, l, markOf]
      rfl
    obtain ⟨gf, as, w2, hrun, hdo⟩ := spec w1 rfl
    have hev : a.eval f = evv n fr f := congrFun g.eval f
    have hres : ∃ d, (resolve a.eval (rangeCall f l) 0).run P w1 = .ok d w1 ∧ (invoke d.target d.args).run P w1 = .ok (.enter gf as) w2 := by
      have e0 : resolve a.eval (rangeCall f l) 0 = Deferred.ofValue (evv n fr f) [Value.func (.yield l) #[] #[]].toArray := by
        simp only [resolve, hev]
        simp [Act.eval]
      rw [e0]
      generalize evv n fr f = fv at hrun
      cases fv <;> simp only [Deferred.ofValue, Sem.run_bind, Sem.run_pure, Result.andThen_ok] at hrun ⊢ <;> first | exact ⟨_, rfl, hrun⟩ | (simp [stuck] at hrun)
    obtain ⟨d, hd, hinv⟩ := hres
    have st1 := stepR_rangeFunc (P := P) (b := b) (a := a) (k := k) (cs := cs) (w := w) hent hd hinv
    obtain ⟨v, w3, ⟨hs3, hfit⟩, hst⟩ := hdo (b.atR { a with defers := [markOf w.heap] ++ a.defers } (.inRangeFunc l :: k)) cs
    obtain ⟨vs, rfl, hK⟩ := hfit
    have hK : ∃ st pd, LoopIs w3.heap l r st pd ∧ st ≠ .busy ∧ afterRange (exitId body) (fun h' => K .normal fr (markOf w.heap :: a.defers) h') (fun h' => K (.exit (exitId body)) fr (markOf w.heap :: a.defers) h') (fun h' => K .ret fr (markOf w.heap :: a.defers) h') pd (setLoop w3.heap l r .exhausted pd) := by
      cases vs with
      | nil => exact hK
      | cons _ _ => exact hK.elim
    obtain ⟨st, pd, hL, hb, hK⟩ := hK
    rw [finish_atR_inRangeFunc] at hst
    have st2 := stepR_endRangeFunc (P := P) (b := b) (a := { a with defers := [markOf w.heap] ++ a.defers }) (k := k) (cs := cs) (run_endLoop (P := P) hL hb)
    have all := Steps.head st1 (Steps.trans hst (.one st2))
    have hs : Same w { w3 with heap := setLoop w3.heap l r .exhausted pd } := ⟨hs3.os, hs3.tape, hs3.output⟩
    have g' : Ag n fr { a with defers := [markOf w.heap] ++ a.defers } := g.defers _
    cases pd with
    | none => exact ⟨.normal, _, _, ⟨fr, g', hs, hK, fun _ _ => rfl⟩, all⟩
    | some c =>
      cases c with
      | exit i =>
        obtain ⟨rfl, hK⟩ := hK
        exact ⟨.exit _, _, _, ⟨fr, g', hs, hK, fun _ _ => rfl⟩, [], rfl, all⟩
      | ret => exact ⟨.ret, _, _, ⟨fr, g', hs, hK, fun _ _ => rfl⟩, k, all⟩
      | _ => exact hK.elim
  | .goto _, b, _, hr, K, fr, a, w, he, g => he.elim
  | .refuse _, b, _, hr, K, fr, a, w, he, g => he.elim
  | .scope c, b, hok, hr, K, fr, a, w, he, g => cw_scope (evC_ok hm c hok hr he g)
  | .region id ops false, b, hok, hr, K, fr, a, w, he, g => by
    have key : evN P n ops.toList (treeN T id ops.toList) fr w.heap (fun fr h => K .normal fr a.defers h) ∧ (treeN T id ops.toList).flat = textOrder ops.toList := by
      unfold treeN
      simp only [evC] at he
      split at he
      · rename_i hf
        rw [hf]
        exact ⟨he, by simp [chainR, chainT_flat, RT.flat]⟩
      · rename_i r hf
        rw [hf]
        obtain ⟨h1, h2⟩ := he.out
        exact ⟨h2, eqOrder_eq h1⟩
    obtain ⟨he, hfl⟩ := key
    refine cw_region ?_
    have h1 := evN_ok (ro := b.roundOf) (K' := Shows n (wr P T (.region id ops false)) K fr w .normal) (treeN T id ops.toList) [] hok he g
      (fun fr' a' w' hK g' hd hs hout => ⟨fr', g', hs, by rw [hd]; exact hK, fun i hi => hout i (memN_false.2 hi)⟩)
    rw [List.append_nil, hfl, textOrder_fst, Array.length_toList] at h1
    exact h1
  | .region id ops true, b, hok, hr, K, fr, a, w, he, g => by
    simp only [okC] at hok
    rw [Bool.and_eq_true] at hok
    obtain ⟨h1, hok⟩ := hok
    cases hal : isAlts T id with
    | true =>
      rw [hal, cond_true] at hok
      have hf : findR T.R id = some .nil := by
        unfold isAlts at hal
        split at hal
        · assumption
        · cases hal
      have he : evA P n ops.toList (altTree P (number 0 ops.toList) ops.toList.length []) [] fr w.heap (fun fr h => K .normal fr a.defers h) := by
        simp only [evC, hf] at he
        exact he
      have hwr : wr P T (.region id ops true) = wrA ops.toList (altTree P (number 0 ops.toList) ops.toList.length []) := by simp only [wr, hal, cond_true]
      rw [Array.length_toList, altOkL_eq] at hok
      refine cw_region_alts hm _ (regionOkL_spec h1) hok ?_
      rw [Array.length_toList] at he hwr
      exact evA_ok (ops := ops) (ro := b.roundOf) (K' := Shows n (wr P T (.region id ops true)) K fr w .normal) _ (hsC := []) (w := { w with drawn := w.drawn + 1 }) he g
        (fun x hx => by cases hx) (fun fr' a' w' hK g' hd hs hout => ⟨fr', g', ⟨hs.os, hs.tape, hs.output⟩, by rw [hd]; exact hK, fun i hi => hout i (memN_false.2 (by rw [hwr] at hi; exact hi))⟩)
    | false =>
    rw [hal, cond_false, Bool.and_eq_true] at hok
    obtain ⟨h2, h3⟩ := hok
    have hwr : wr P T (.region id ops true) = wrT ops.toList (treeD P T id ops.toList) := by simp only [wr, hal, cond_false]
    have he : evD P n ops.toList (treeD P T id ops.toList) [] fr w.heap (fun fr h => K .normal fr a.defers h) := by
      unfold treeD
      simp only [evC] at he
      split at he
      · rename_i hf; rw [hf]; exact he
      · rename_i r hf
        rw [hf]
        split at he
        · unfold isAlts at hal; rw [hf] at hal; cases hal
        · exact he.out.2
    rw [Array.length_toList, canonOkL_eq] at h2
    refine cw_region_canon hm (treeD P T id ops.toList).flat (regionOkL_spec h1) h2 ?_
    have h4 := evD_ok (ops := ops) (ro := b.roundOf) (K' := Shows n (wr P T (.region id ops true)) K fr w .normal) (treeD P T id ops.toList) [] (E := fun _ => False) (hsC := []) (w := { w with drawn := w.drawn + 1 }) h3 he g
      (fun x hx => by cases hx) (fun _ h => h.elim) (fun fr' a' w' hsC' hK g' hd hs hout _ => ⟨fr', g', ⟨hs.os, hs.tape, hs.output⟩, by rw [hd]; exact hK, fun i hi => hout i (memN_false.2 (by rw [hwr] at hi; exact hi))⟩)
    rw [List.append_nil] at h4
    exact h4
  | .seq x y, b, hok, hr, K, fr, a, w, he, g => by
    simp only [okC, Bool.and_eq_true] at hok
    obtain ⟨h0, hx, hy⟩ := hok
    have hrx : b.roundOf = none ∨ noRF x = true := hr.imp id fun h => by simp only [noRF, Bool.and_eq_true] at h; exact h.1
    have hry : b.roundOf = none ∨ noRF y = true := hr.imp id fun h => by simp only [noRF, Bool.and_eq_true] at h; exact h.2
    refine cw_seq ?_
    simp only [evC] at he
    have outer : ∀ {i : Nat}, i ∉ wr P T (.seq x y) → i ∉ specAt T.J (firstReg y) ∧ i ∉ wr P T x ∧ i ∉ wr P T y := by
      intro i hi
      simpa only [wr, List.mem_append, not_or] using hi
    split at he
    · refine (evC_ok hm x hx hrx he g).mono fun e a' w' ⟨fr', g', hs, hK, hout⟩ => ?_
      cases e with
      | normal =>
        refine (evC_ok hm y hy hry hK g').mono fun e a'' w'' ⟨fr'', g'', hs', hK', hout'⟩ => ?_
        exact ⟨fr'', g'', hs.trans hs', hK', fun i hi => by rw [hout' i (outer hi).2.2, hout i (outer hi).2.1]⟩
      | exit id => exact ⟨fr', g', hs, hK, fun i hi => hout i (outer hi).2.1⟩
      | ret => exact ⟨fr', g', hs, hK, fun i hi => hout i (outer hi).2.1⟩
    · rename_i s hf
      rw [hf] at h0
      obtain ⟨J, hrest, he⟩ := he
      refine (evC_ok hm x hx hrx he g).mono fun e a' w' ⟨fr', g', hs, hK, hout⟩ => ?_
      cases e with
      | normal =>
        obtain ⟨hdf, hd⟩ := sameD_out hK
        obtain ⟨vs, hv, hd⟩ := decO_some hd
        obtain ⟨i, hi, hq⟩ := decL_allJ _ hd (hrest fr')
        have hq := hq _ hi
        rw [join_fr h0 hv fun i hi => hout i (memN_false.1 hi), ← hdf] at hq
        refine (evC_ok hm y hy hry hq g').mono fun e a'' w'' ⟨fr'', g'', hs', hK', hout'⟩ => ?_
        exact ⟨fr'', g'', hs.trans hs', hK', fun i hi => by rw [hout' i (outer hi).2.2, hout i (outer hi).2.1]⟩
      | exit id => exact ⟨fr', g', hs, hK, fun i hi => hout i (outer hi).2.1⟩
      | ret => exact ⟨fr', g', hs, hK, fun i hi => hout i (outer hi).2.1⟩
  | .cond c x y, b, hok, hr, K, fr, a, w, he, g => by
    simp only [okC, Bool.and_eq_true] at hok
    simp only [evC] at he
    split at he
    · rename_i t ht
      refine cw_cond (t := t) (by rw [g.eval]; exact ht) ?_
      rcases he.out with ⟨rfl, he⟩ | ⟨rfl, he⟩
      · exact (evC_ok hm x hok.1 (hr.imp id fun h => by simp only [noRF, Bool.and_eq_true] at h; exact h.1) he g).mono fun e a' w' ⟨fr', g', hs, hK, hout⟩ => ⟨fr', g', hs, hK, fun i hi => hout i fun h => hi (List.mem_append_left _ h)⟩
      · exact (evC_ok hm y hok.2 (hr.imp id fun h => by simp only [noRF, Bool.and_eq_true] at h; exact h.2) he g).mono fun e a' w' ⟨fr', g', hs, hK, hout⟩ => ⟨fr', g', hs, hK, fun i hi => hout i fun h => hi (List.mem_append_right _ h)⟩
    · exact he.elim
  | .block id c, b, hok, hr, K, fr, a, w, he, g => by
    refine cw_block ((evC_ok hm c hok hr he g).mono fun e a' w' ⟨fr', g', hs, hK, hout⟩ => ?_)
    cases e with
    | normal => exact ⟨fr', g', hs, hK, hout⟩
    | exit id' =>
      simp only [Ex.block]
      simp only at hK
      split
      · rename_i e
        subst e
        rw [Nat.beq_refl] at hK
        exact ⟨fr', g', hs, hK, hout⟩
      · rename_i e
        cases hb : Nat.beq id' id with
        | true => exact absurd (beq_true' hb) e
        | false => rw [hb] at hK; exact ⟨fr', g', hs, hK, hout⟩
    | ret => exact ⟨fr', g', hs, hK, hout⟩
  | .loop c, b, hok, hr, K, fr, a, w, he, g => by
    simp only [okC, Bool.and_eq_true] at hok
    obtain ⟨h0, hc⟩ := hok
    simp only [evC] at he
    split at he
    · exact he.elim
    · rename_i s hf
      rw [hf] at h0
      obtain ⟨I, μ, hd, hall⟩ := he
      have outer : ∀ {i : Nat}, i ∉ wr P T (.loop c) → i ∉ s.all ∧ i ∉ wr P T c := by
        intro i hi
        simpa only [wr, specAt, hf, List.mem_append, not_or] using hi
      let Body : (Mem → Prop) → (Mem → Nat) → Fr → Prop := fun ih m fr'' => ∀ h, ih h →
        evC P n T c (fun e fr' d' h' => match e with
            | .normal => sameD d' a.defers (decO (specLeaves s.slots) (slotVals fr' s.slots) (andC (specLeaves s.slots) I μ (m h)) h')
            | .exit i => K (.exit i) fr' d' h'
            | .ret => K .ret fr' d' h') fr'' a.defers h
      let Inv : Nat → Act → World → Prop := fun k a' w' => ∃ fr' ih m, Ag n fr' a' ∧ Same w w' ∧ a'.defers = a.defers ∧ (∀ i, i ∉ s.all → fr' i = fr i) ∧ ih w'.heap ∧ m w'.heap = k ∧ Body ih m fr'
      have start : ∃ k, Inv k a w := by
        obtain ⟨vs, hv, hd⟩ := decO_some hd
        obtain ⟨ih, m, hi, hq⟩ := decL_allL _ hd (hall fr)
        rw [join_fr (l := []) rfl hv fun _ _ => rfl] at hq
        exact ⟨_, fr, ih, m, g, Same.refl _, rfl, fun _ _ => rfl, hi, rfl, hq⟩
      obtain ⟨k0, start⟩ := start
      refine cw_loopN Inv start ?_
      rintro k a1 w1 ⟨fr1, ih, m, g1, hs1, hd1, hout1, hi1, hm1, hb1⟩
      have hb := hb1 _ hi1
      rw [← hd1] at hb
      refine (evC_ok hm c hc hr hb g1).mono fun e a2 w2 ⟨fr2, g2, hs2, hK2, hout2⟩ => ?_
      have far : ∀ i, i ∉ wr P T (.loop c) → fr2 i = fr i := fun i hi => by rw [hout2 i (outer hi).2, hout1 i (outer hi).1]
      cases e with
      | normal =>
        obtain ⟨hdf, hd2⟩ := sameD_out hK2
        obtain ⟨vs, hv, hd2⟩ := decO_some hd2
        rw [hd1] at hdf
        have hout : ∀ i, memN i s.all = false → fr2 i = fr i := by
          intro i hi
          have hi := memN_false.1 hi
          rw [hout2 i (fun h => hi (subL_iff h0 i h)), hout1 i hi]
        obtain ⟨ih', m', hi', hlt, hq⟩ := decL_andC _ hd2 (hall fr2)
        have self : subL s.all s.all = true := by
          have : ∀ (l m : List Nat), (∀ i ∈ l, i ∈ m) → subL l m = true := by
            intro l m
            induction l with
            | nil => intro _; rfl
            | cons i l ihl => intro h; simp only [subL, Bool.and_eq_true]; exact ⟨memN_iff.2 (h i (List.mem_cons_self ..)), ihl fun j hj => h j (List.mem_cons_of_mem _ hj)⟩
          exact this _ _ fun _ h => h
        rw [join_fr self hv hout] at hq
        exact ⟨_, by rw [← hm1]; exact hlt, fr2, ih', m', g2, hs1.trans hs2, hdf, fun i hi => hout i (memN_false.2 hi), hi', rfl, hq⟩
      | exit id => exact ⟨fr2, g2, hs1.trans hs2, hK2, far⟩
      | ret => exact ⟨fr2, g2, hs1.trans hs2, hK2, far⟩

/-! ### functions -/

theorem evRes_ok {fr : Fr} {a : Act} {h : Mem} (g : Ag n fr a) : ∀ (l : List ResultVar) (acc : List Value) {K : List Value → Prop}, evRes P n fr h l acc K →
    ∃ vs, K (acc.reverse ++ vs) ∧ ∀ w : World, w.heap = h → (l.mapM (fun | .tmp t => pure (a.tmps.getD t undef) | .cell p t => do loadVar t (← asAddr (a.tmps.getD p undef)) : ResultVar → Sem Value)).run P w = .ok vs w
  | [], acc, K, he => ⟨[], by simpa [evRes] using he, fun w _ => rfl⟩
  | .tmp t :: l, acc, K, he => by
    obtain ⟨vs, hv, hr⟩ := evRes_ok g l _ he
    have e : a.tmps.getD t undef = evv n fr (.tmp t) := congrFun g.eval (.tmp t)
    refine ⟨evv n fr (.tmp t) :: vs, by simpa using hv, fun w hw => ?_⟩
    simp only [List.mapM_cons, Sem.run_bind, Sem.run_pure, Result.andThen_ok, hr w hw, e]
  | .cell p t :: l, acc, K, he => by
    have e : a.tmps.getD p undef = evv n fr (.tmp p) := congrFun g.eval (.tmp p)
    simp only [evRes] at he
    split at he
    · rename_i q hq
      obtain ⟨addr, rfl, he⟩ := he.out
      obtain ⟨v, hv, hl⟩ := ReadT.ok (g := fun v => evRes P n fr h l (v :: acc) K) he
      obtain ⟨vs, hv, hr⟩ := evRes_ok g l _ hv
      refine ⟨v :: vs, by simpa using hv, fun w hw => ?_⟩
      have ea : asAddr (a.tmps.getD p undef) = pure addr := by rw [e, hq]; rfl
      simp only [List.mapM_cons, Sem.run_bind, ea, Sem.run_pure, Result.andThen_ok, hl w hw, hr w hw]
    · exact he.elim

theorem appl_dec : ∀ (ls : List Leaf) {vs : List Value} {Q : Cur (Mem → Prop) ls} {h : Mem}, decL ls vs Q h → Appl (fun k => k h) ls vs Q
  | [], [], Q, h, hd => hd
  | l :: ls, v :: vs, Q, h, hd => by
    simp only [decL] at hd
    obtain ⟨x, e, hd'⟩ := decLeaf_is hd
    exact ⟨x, by rw [← e]; exact l.is_enc x, appl_dec ls hd'⟩
  | [], _ :: _, _, _, hd => hd.elim
  | _ :: _, [], _, _, hd => hd.elim

theorem allVals_build : ∀ {cs : List Cmp} {vs xs : List Value}, allVals cs vs = some xs → buildAll cs xs = vs
  | [], [], xs, h => by simp only [allVals, Option.some.injEq] at h; rfl
  | c :: cs, v :: vs, xs, h => by
    simp only [allVals] at h
    cases h1 : cmpVals c v with
    | none => rw [h1] at h; cases h
    | some a =>
      cases h2 : allVals cs vs with
      | none => rw [h1, h2] at h; cases h
      | some b =>
        rw [h1, h2] at h
        simp only [andThenL, Option.some.injEq] at h
        subst h
        obtain ⟨hl, hb⟩ := cmpVals_spec h1
        simp only [buildAll, hb, ← hl, dropN_append, allVals_build h2]
  | [], _ :: _, _, h => by simp [allVals] at h
  | _ :: _, [], _, h => by simp [allVals] at h

theorem kdVals_build {kd : Kd} {vs xs : List Value} (h : kdVals kd vs = some xs) : kd.build xs = if h : vs.toArray.size = 1 then vs.toArray[0] else .tuple vs.toArray := by
  cases kd with
  | one c =>
    match vs with
    | [v] =>
      simp only [kdVals] at h
      have := (cmpVals_spec h).2 []
      rw [List.append_nil] at this
      simpa [Kd.build] using this
    | [] => simp [kdVals] at h
    | _ :: _ :: _ => simp [kdVals] at h
  | tup cs =>
    have hne : vs.length ≠ 1 := by
      intro e
      match vs, e with
      | [v], _ => simp [kdVals] at h
    have h' : allVals cs vs = some xs := by
      match vs, hne with
      | [], _ => simpa [kdVals] using h
      | _ :: _ :: _, _ => simpa [kdVals] using h
    rw [dif_neg (by simpa using hne)]
    simp only [Kd.build, allVals_build h']

/-- the marks are taken -/
theorem out_marks : ∀ (ds : List Deferred) (w : World) (fr : Frame) (cs : List Frame) {h : Mem} {K : Mem → Prop}, w.heap = h → fr.mode = .returning → fr.defers = ds → evOut ds h K →
    ∃ w', Steps P (lone fr cs w) (lone { fr with defers := [] } cs w') ∧ Same w w' ∧ K w'.heap
  | [], w, fr, cs, h, K, hw, hm, hd, hK => by
    subst hw
    refine ⟨w, ?_, Same.refl _, hK⟩
    have : { fr with defers := [] } = fr := by rw [← hd]
    rw [this]
    exact .refl _ _
  | ⟨.collected D, args⟩ :: l, w, fr, cs, h, K, hw, hm, hd, hK => by
    subst hw
    obtain ⟨hD, hK⟩ := hK
    have ht : (Instr.takeDeferred D).run P w = .ok [] { w with heap := w.heap.setIfInBounds D (.deferred none) } := by
      simp [Instr.takeDeferred, getObj, setObj, Sem.run_bind, Sem.run, hD, Result.andThen_ok]
    have h1 := step_collected (P := P) (cs := cs) (by rw [hm]; simp) hd rfl ht
    obtain ⟨w', hst, hs, hk⟩ := out_marks l { w with heap := w.heap.setIfInBounds D (.deferred none) } { fr with defers := [] ++ l } cs rfl hm rfl hK
    exact ⟨w', .head h1 hst, ⟨hs.os, hs.tape, hs.output⟩, hk⟩
  | ⟨.nil, _⟩ :: _, _, _, _, _, _, _, _, _, hK => hK.elim
  | ⟨.builtin _ _ _ _, _⟩ :: _, _, _, _, _, _, _, _, _, hK => hK.elim
  | ⟨.fn _ _, _⟩ :: _, _, _, _, _, _, _, _, _, hK => hK.elim
  | ⟨.coroexit _, _⟩ :: _, _, _, _, _, _, _, _, _, hK => hK.elim

/-- what is asked for is what the call does -/
theorem evF_calls (hm : P.follows .mixedOrders = true) {f : FuncId} {fn : Func} {c : Code} {args : List Value} {w : World} {kd : Kd} {Q : Cur (Mem → Prop) kd.leaves}
    (hf : P.funcs[f]? = some fn) (hb : fn.body = some c) (hok : okC P T c = true) (hn : Nat.ble args.length fn.ntmps = true) (h : evF P fn T args kd w.heap Q) :
    Calls P f args.toArray w fun e w' => ∃ v, e = .returned v ∧ Same w w' ∧ Fits (fun k => k w'.heap) kd v Q := by
  intro cs
  have hn := Nat.le_of_ble_eq_true hn
  let b : Frame := { (default : Frame) with fn := f, kind := .normal }
  let a0 : Act := { tmps := args.toArray ++ Array.replicate (fn.ntmps - args.toArray.size) undef, defers := [] }
  have henter : Frame.enter P f args.toArray .normal = b.atR a0 [.code c] := by
    simp [Frame.enter, Frame.atR, hf, hb, b, a0]
    rfl
  have g0 : Ag fn.ntmps (frame0 args) a0 := by
    refine ⟨by simp [a0]; omega, fun i hi => ?_⟩
    simp only [a0, frame0, nth_eq, Array.getElem?_append, List.size_toArray]
    by_cases hlt : i < args.length
    · rw [if_pos hlt]; simp [hlt]
    · rw [if_neg hlt, List.getElem?_eq_none (by omega), Array.getElem?_replicate, if_pos (by omega)]
      rfl
  simp only [evF, hb] at h
  have hC := evC_ok (b := b) hm c hok (.inl rfl) (a := a0) h g0
  obtain ⟨e, a', w', ⟨fr', g', hs, hK, _⟩, harr⟩ := hC [] cs
  rw [← henter] at harr
  have fin : ∀ (fr1 : Frame) (cs : List Frame), fr1.fn = f → fr1.kind = .normal → fr1.mode = .returning → fr1.defers = a'.defers → fr1.tmps = a'.tmps →
      evOut a'.defers w'.heap (fun h => evRes P fn.ntmps fr' h fn.results.toList [] fun vs => decO kd.leaves (kdVals kd vs) Q h) →
      ∃ v w'' fr2, Steps P (lone fr1 cs w') (lone fr2 cs w'') ∧ fr2.fn = f ∧ fr2.leaving P w'' (.returned v) ∧ Same w w'' ∧ Fits (fun k => k w''.heap) kd v Q := by
    intro fr1 cs h1 h2 h3 h4 h5 hK
    obtain ⟨w'', hst, hs', hr⟩ := out_marks (P := P) a'.defers w' fr1 cs rfl h3 h4 hK
    obtain ⟨vs, hv, hrun⟩ := evRes_ok g' _ _ hr
    simp only [List.reverse_nil, List.nil_append] at hv
    obtain ⟨xs, hx, hd⟩ := decO_some hv
    refine ⟨_, w'', { fr1 with defers := [] }, hst, h1, ⟨h3, rfl, h2, fn, by rw [h1]; exact hf, ?_⟩, hs.trans hs', xs, (kdVals_build hx).symm, appl_dec _ hd⟩
    have := hrun w'' rfl
    show (results fn fr1.tmps).run P w'' = _
    rw [h5]
    simp only [results, Array.mapM_eq_mapM_toList, Sem.run_bind, map_eq_pure_bind, Sem.run_pure]
    exact Eq.trans (congrArg (fun r : Result (List Value) => (r.andThen fun a w' => Result.ok a.toArray w').andThen fun (a : Array Value) w' => Result.ok (if h : a.size = 1 then a[0] else Value.tuple a) w') this) rfl
  cases e with
  | normal =>
    obtain ⟨v, w'', fr2, hst, hfn, hl, hs2, hfit⟩ := fin ({ b.atR a' [] with mode := .returning }) cs rfl rfl rfl rfl rfl hK
    exact ⟨.returned v, w'', fr2, ⟨v, rfl, hs2, hfit⟩, Steps.trans harr (.head (stepR_end rfl) hst), hfn, hl⟩
  | ret =>
    obtain ⟨k0, hst0⟩ := harr
    obtain ⟨v, w'', fr2, hst, hfn, hl, hs2, hfit⟩ := fin ({ b.atR a' (.code .ret :: k0) with mode := .returning }) cs rfl rfl rfl rfl rfl hK
    exact ⟨.returned v, w'', fr2, ⟨v, rfl, hs2, hfit⟩, Steps.trans hst0 (.head (stepR_ret rfl) hst), hfn, hl⟩
  | exit id => exact hK.elim

/-- the checks of a function -/
def okF (P : Program) (f : FuncId) (T : Tab) : Bool :=
  match nth P.funcs.toList f with
  | some fn => (match fn.body with | some c => !(fn.name == "runtime.NumGoroutine") && okC P T c | none => false)
  | none => false

theorem evFn_calls (hm : P.follows .mixedOrders = true) {f : FuncId} {args : List Value} {w : World} {kd : Kd} {Q : Cur (Mem → Prop) kd.leaves} (hok : okF P f T = true) (h : evFn P f T args kd w.heap Q) :
    Calls P f args.toArray w fun e w' => ∃ v, e = .returned v ∧ Same w w' ∧ Fits (fun k => k w'.heap) kd v Q := by
  unfold evFn at h
  unfold okF at hok
  simp only [nth_eq, Array.getElem?_toList] at h hok
  cases hf : P.funcs[f]? with
  | none => rw [hf] at h; exact h.elim
  | some fn =>
    rw [hf] at h hok
    simp only at h hok
    cases hb : fn.body with
    | none => rw [hb] at hok; cases hok
    | some c =>
      rw [hb] at hok
      simp only [Bool.and_eq_true] at hok
      obtain ⟨hn, h⟩ := h.out
      exact evF_calls hm hf hb hok.2 hn h

theorem callF_of (hm : P.follows .mixedOrders = true) {f : FuncId} {args : List Value} {h : Mem} {kd : Kd} {Q : Cur (Mem → Prop) kd.leaves} (hok : okF P f T = true) (he : evFn P f T args kd h Q) : CallF P f args kd h Q := by
  intro w hw
  subst hw
  have hc := evFn_calls hm hok he
  unfold okF at hok
  simp only [nth_eq, Array.getElem?_toList] at hok
  cases hf : P.funcs[f]? with
  | none => rw [hf] at hok; cases hok
  | some fn =>
    rw [hf] at hok
    simp only at hok
    cases hb : fn.body with
    | none => rw [hb] at hok; cases hok
    | some c =>
      rw [hb] at hok
      simp only [Bool.and_eq_true, Bool.not_eq_true'] at hok
      have hr : (callFunc f args.toArray).run P w = .ok (.enter f args.toArray) w := by
        have hne := beq_eq_false_iff_ne.1 hok.1
        simp [callFunc, hf, hne, hb]
      rw [hr]
      exact FrDoes.of_calls (hc.mono fun e w' ⟨v, h1, h2, h3⟩ => ⟨v, h1, h2, h3⟩)
end sound
end Go.Dn
