/- Loops over functions: what is told one by one, to the end. -/
import Derived.Test.YtbipdjmdacelkaaGreatDnV
set_option linter.unusedVariables false
namespace Go.Dn
open Go Go.Dn.W

theorem setLoop_upd (h : Mem) (l : Nat) (r : Loop) (st : LoopState) (pd : Option Code) : Upd l h (setLoop h l r st pd) := by
  refine ⟨by simp [setLoop], fun k hk => ?_⟩
  unfold setLoop
  rw [Array.getElem?_setIfInBounds_ne (fun e => hk e.symm)]
theorem setLoop_at {h : Mem} {l : Nat} {r : Loop} {st st' : LoopState} {pd pd' : Option Code} (hl : LoopIs h l r st' pd') : (setLoop h l r st pd)[l]? = some (.loop { r with state := st, pending := pd }) := by
  have hlt : l < h.size := (Array.getElem?_eq_some_iff.1 hl).1
  unfold setLoop
  rw [Array.getElem?_setIfInBounds_self_of_lt hlt]
theorem range_full {P : Program} {f : Value} {h : Mem} {cs : List Cmp} {B : Cur RB (leavesAll cs)} {Kn Ke Kr : Mem → Prop} {eid : Nat} (n : Nat) (args : Nat → List Value) (body : Nat → RB) (I : Nat → Mem → Prop)
    (spec : ∀ (l : Nat) (r : Loop), (∀ (h2 : Mem) (pd : Option Code) (R : Bool → Mem → Prop), LoopIs h2 l r .ready pd → allC (leavesAll cs) B fun vs b =>
        b h2 (fun h3 F => ∃ pd, LoopIs h3 l r .ready pd ∧ F (setLoop h3 l r .busy pd)) (fun h4 => ∃ st pd, LoopIs h4 l r st pd ∧ R true (setLoop h4 l r .ready none))
          (fun h4 => ∃ st pd, LoopIs h4 l r st pd ∧ R false (setLoop h4 l r .done (some (.exit eid)))) (fun h4 => ∃ st pd, LoopIs h4 l r st pd ∧ R false (setLoop h4 l r .done (some .ret))) →
        CallV P (.func (.yield l) #[] #[]) (buildAll cs vs) (.one (.leaf .bool)) h2 R) →
      ∀ i, i < n → ∀ (h2 : Mem) (pd : Option Code) (R : Bool → Mem → Prop), LoopIs h2 l r .ready pd →
        body i h2 (fun h3 F => ∃ pd, LoopIs h3 l r .ready pd ∧ F (setLoop h3 l r .busy pd)) (fun h4 => ∃ st pd, LoopIs h4 l r st pd ∧ R true (setLoop h4 l r .ready none))
          (fun h4 => ∃ st pd, LoopIs h4 l r st pd ∧ R false (setLoop h4 l r .done (some (.exit eid)))) (fun h4 => ∃ st pd, LoopIs h4 l r st pd ∧ R false (setLoop h4 l r .done (some .ret))) →
        CallV P (.func (.yield l) #[] #[]) (args i) (.one (.leaf .bool)) h2 R)
    (start : ∀ h1, Ext h.size h h1 → h1.size = h.size + 2 → h1[h.size]? = some (.deferred (some [])) → I 0 h1)
    (upd : ∀ i h1 h2, I i h1 → Upd (h.size + 1) h1 h2 → I i h2)
    (ext : ∀ i h1 h2, I i h1 → Ext h1.size h1 h2 → I i h2)
    (tell : ∀ (J : Nat → Mem → Prop) (h1 : Mem) (y : Value), J 0 h1 → (∀ i h, J i h → I i h) → (∀ i h h', J i h → Ext h.size h h' → J i h') →
      (∀ i h, i < n → J i h → CallV P y (args i) (.one (.leaf .bool)) h fun b h' => b = true ∧ J (i + 1) h') → EnterV P f [y] (.tup []) h1 fun h' => J n h')
    (step : ∀ i h2 (o o' : Obj) (begin : Mem → (Mem → Prop) → Prop) (next ex re : Mem → Prop), i < n → I i h2 → h2[h.size + 1]? = some o →
      (∀ h3 F, h3[h.size + 1]? = some o → (∀ h', Upd (h.size + 1) h3 h' → h'[h.size + 1]? = some o' → F h') → begin h3 F) → (∀ h4, h4[h.size + 1]? = some o' → I (i + 1) h4 → next h4) → body i h2 begin next ex re)
    (fin : ∀ h4, I n h4 → Kn h4) : RangeFn P f h cs B Kn Ke Kr eid := by
  rintro r h1 he Y
  have hsz : h1.size = h.size + 2 := by rw [he]; simp
  have hx : Ext h.size h h1 := by rw [he]; exact (Ext.push h _ (Nat.le_refl _)).trans (Ext.push _ _ (by simp))
  have hd : h1[h.size]? = some (.deferred (some [])) := by rw [he, push_get_lt _ _ (by simp), push_get_size]
  have hl : LoopIs h1 (h.size + 1) r .ready none := by
    show h1[h.size + 1]? = _
    rw [he]
    have : h.size + 1 = (h.push (Obj.deferred (some []))).size := by simp
    rw [this, push_get_size]
  have Z := spec (h.size + 1) r Y
  have main := tell (fun i h' => LoopIs h' (h.size + 1) r .ready none ∧ I i h') h1 (.func (.yield (h.size + 1)) #[] #[]) ⟨hl, start h1 hx hsz hd⟩ (fun i h' x => x.2)
    (fun i h' h'' x e => ⟨(e.block _ (Array.getElem?_eq_some_iff.1 x.1).1).trans x.1, ext i h' h'' x.2 e⟩) (fun i h2 hi x => ?_)
  · intro w hw
    obtain ⟨g, gs, w1, e1, e2⟩ := main w hw
    refine ⟨g, gs, w1, e1, e2.mono ?_⟩
    rintro v w' ⟨hs, hf⟩
    refine ⟨hs, ?_⟩
    obtain ⟨vs, hv, ha⟩ := hf
    refine ⟨vs, hv, ?_⟩
    match vs, ha with
    | [], ha =>
      obtain ⟨h3, h4⟩ := (ha : LoopIs w'.heap (h.size + 1) r .ready none ∧ I n w'.heap)
      exact ⟨.ready, none, h3, by decide, fin _ (upd n _ _ h4 (setLoop_upd _ _ _ _ _))⟩
  · refine Z i hi h2 none _ x.1 (step i h2 _ (.loop { r with state := .busy, pending := none }) _ _ _ _ hi x.2 x.1 (fun h3 F h4 h5 => ⟨none, h4, h5 _ (setLoop_upd _ _ _ _ _) (setLoop_at h4)⟩) fun h4 h5 h6 => ⟨.busy, none, h5, rfl, setLoop_at h5, upd _ _ _ h6 (setLoop_upd _ _ _ _ _)⟩)
theorem CallV.yes {P : Program} {y : Value} {args : List Value} {h : Mem} {J : Mem → Prop} {Q : Bool → Mem → Prop} (c : CallV P y args (.one (.leaf .bool)) h fun b h' => b = true ∧ J h') (k : ∀ h', J h' → Q true h') : CallV P y args (.one (.leaf .bool)) h Q := by
  refine Invokes.mono c ?_
  rintro u h' ⟨vs, hv', hap⟩
  refine ⟨vs, hv', ?_⟩
  match vs, hap with
  | [_], ⟨b, .bool _, hb1, hj⟩ =>
  refine ⟨b, .bool _, ?_⟩
  have hb1 : b = true := hb1
  subst hb1
  exact k _ hj
end Go.Dn
