/- The evaluator is sound: what it asks for makes the code do so. -/
import Derived.Test.YtbipdjmdacelkaaGreatDnEv
import Derived.Laws.Strings
namespace Go.Dn
open Go

/-! ### small laws -/

theorem nth_eq {α : Type} : ∀ (l : List α) (i : Nat), nth l i = l[i]?
  | [], _ => rfl
  | _ :: _, 0 => rfl
  | x :: l, n + 1 => by simp [nth, nth_eq l n]

theorem takeN_eq {α : Type} : ∀ (n : Nat) (l : List α), takeN n l = l.take n
  | 0, l => by cases l <;> rfl
  | _ + 1, [] => rfl
  | n + 1, x :: l => by simp [takeN, takeN_eq n l]
theorem dropN_eq {α : Type} : ∀ (n : Nat) (l : List α), dropN n l = l.drop n
  | 0, l => by cases l <;> rfl
  | _ + 1, [] => rfl
  | n + 1, x :: l => by simp [dropN, dropN_eq n l]

theorem kEq_eq {a b : IntKind} (h : kEq a b = true) : a = b := by
  cases a <;> cases b <;> first | rfl | (simp [kEq] at h)

theorem Chk.out {c : Bool} {A : Prop} (h : Chk c A) : c = true ∧ A := by
  cases c
  · exact h.elim
  · exact ⟨rfl, h⟩
theorem Ck.out {c : Bool} {A : Prop} (h : Ck c A) : c = true ∧ A := by
  cases c
  · exact h.elim
  · exact ⟨rfl, h⟩
theorem Chk.mk {c : Bool} {A : Prop} (hc : c = true) (h : A) : Chk c A := by subst hc; exact h
theorem Deref.out {a : Option Addr} {K : Addr → Prop} (h : Deref a K) : ∃ p, a = some p ∧ K p := by
  cases a with
  | none => exact h.elim
  | some p => exact ⟨p, rfl, h⟩
theorem Br.out {c : Bool} {A B : Prop} (h : Br c A B) : (c = true ∧ A) ∨ (c = false ∧ B) := by
  cases c
  · exact .inr ⟨rfl, h⟩
  · exact .inl ⟨rfl, h⟩

section run
variable {P : Program} {w : World}
theorem run_und {t : TypeId} {d : TypeDesc} (h : P.underlying t = some d) : (underlying t).run P w = .ok d w := by
  simp [underlying, h]
theorem run_info {t : TypeId} {i : TypeInfo} (h : P.info? t = some i) : (typeInfo t).run P w = .ok i w := by
  simp [typeInfo, h]
theorem run_size {t : TypeId} {i : TypeInfo} (h : P.info? t = some i) : (sizeOf t).run P w = .ok i.size w := by
  simp [sizeOf, run_info h]
theorem szOf_some {t : TypeId} {i : TypeInfo} (h : P.info? t = some i) : szOf P t = i.size := by simp [szOf, h]
theorem run_szOf {t : TypeId} (h : szOf P t ≠ 0) : (sizeOf t).run P w = .ok (szOf P t) w := by
  cases hi : P.info? t with
  | none => simp [szOf, hi] at h
  | some i => rw [run_size hi, szOf_some hi]
theorem run_isAgg {t : TypeId} {d : TypeDesc} (h : P.underlying t = some d) : (isAgg t).run P w = .ok (isAggB P t) w := by
  unfold isAgg isAggB
  rw [h]
  cases d <;> simp [run_und h]
/-- every type that has an underlying one has a row -/
theorem info_of_und {t : TypeId} {d : TypeDesc} (h : P.underlying t = some d) : ∃ i, P.info? t = some i := by
  cases hi : P.info? t with
  | some i => exact ⟨i, rfl⟩
  | none => simp [Program.underlying, hi] at h
theorem run_szOf' {t : TypeId} {d : TypeDesc} (h : P.underlying t = some d) : (sizeOf t).run P w = .ok (szOf P t) w := by
  obtain ⟨i, hi⟩ := info_of_und h
  rw [run_size hi, szOf_some hi]
end run

/-! ### operations that look at no heap -/

section pure
variable {P : Program} {n : Nat}

/-- the value that K is told of, and that the computation gives -/
def Ok (P : Program) (m : Sem Value) (K : Value → Prop) : Prop := ∃ v, K v ∧ ∀ w, m.run P w = .ok v w

theorem PureT.ok {m : Sem Value} {kd : Kd} {g : Value → Prop} (h : PureT P m kd (curry kd.leaves fun vs => g (kd.build vs))) : Ok P m g := by
  obtain ⟨v, hv, hf⟩ := h
  exact ⟨v, fits_curry (T := id) hf, hv⟩

theorem evInt_ok {op : BinOp} {t : TypeId} {k k' : IntKind} {a b : Int} {K : Value → Prop} (h : evInt op k a k' b K) : Ok P (binOp op t (.int k a) (.int k' b)) K := by
  cases op <;> simp only [evInt] at h
  case shl => obtain ⟨hc, h1⟩ := h.out; refine ⟨_, h1, fun w => ?_⟩; simp only [decide_eq_true_eq] at hc; simp [binOp, Op.shift, shN, Int.not_lt.2 hc]
  case shr => obtain ⟨hc, h1⟩ := h.out; refine ⟨_, h1, fun w => ?_⟩; simp only [decide_eq_true_eq] at hc; simp [binOp, Op.shift, shN, Int.not_lt.2 hc]
  all_goals obtain ⟨hk, h1⟩ := h.out
  all_goals clear h
  all_goals obtain rfl := kEq_eq hk
  case quo => obtain ⟨hc, h2⟩ := h1.out; refine ⟨_, h2, fun w => ?_⟩; simp only [Bool.not_eq_true', decide_eq_false_iff_not] at hc; simp [binOp, Op.intDiv, hc]
  case rem => obtain ⟨hc, h2⟩ := h1.out; refine ⟨_, h2, fun w => ?_⟩; simp only [Bool.not_eq_true', decide_eq_false_iff_not] at hc; simp [binOp, Op.intDiv, hc]
  all_goals refine ⟨_, h1, fun w => ?_⟩
  all_goals simp [binOp, Op.intArith, Op.intBits, Op.intCmp, bitsOf]

theorem evStr_ok {op : BinOp} {t : TypeId} {a b : ByteArray} {K : Value → Prop} (h : evStr op a b K) : Ok P (binOp op t (.string a) (.string b)) K := by
  cases op <;> simp only [evStr] at h
  case add =>
    obtain ⟨hc, h1⟩ := h.out; refine ⟨_, h1, fun w => ?_⟩
    have hc := Nat.le_of_ble_eq_true hc
    have hm : IntKind.i64.max = 9223372036854775807 := by decide
    simp only [binOp, Op.stringOp]
    rw [if_neg (by omega)]; rfl
  all_goals first | exact h.elim | refine ⟨_, h, fun w => ?_⟩
  all_goals simp [binOp, Op.stringOp, sEq, sLt]

theorem evEq_ok {op : BinOp} {t : TypeId} {x y : Value} {b : Bool} {K : Value → Prop} (hn : ∀ w, (Op.equal t x y).run P w = .ok b w)
    (he : binOp .eql t x y = do pure (.bool (← Op.equal t x y))) (hne : binOp .neq t x y = do pure (.bool (!(← Op.equal t x y)))) (h : evEq op b K) : Ok P (binOp op t x y) K := by
  cases op <;> simp only [evEq] at h
  all_goals first | exact h.elim | refine ⟨_, h, fun w => ?_⟩
  · rw [he]; simp [hn]
  · rw [hne]; simp [hn]

theorem nilEq_ok {op : BinOp} {t : TypeId} {x y : Value} {α : Type} {a b : Option α} {K : Value → Prop}
    (hn : (b = none → ∀ w, (Op.equal t x y).run P w = .ok a.isNone w) ∧ (a = none → b.isSome = true → ∀ w, (Op.equal t x y).run P w = .ok false w))
    (he : binOp .eql t x y = do pure (.bool (← Op.equal t x y))) (hne : binOp .neq t x y = do pure (.bool (!(← Op.equal t x y)))) (h : nilEq op a b K) : Ok P (binOp op t x y) K := by
  cases b with
  | none => exact evEq_ok (hn.1 rfl) he hne h
  | some b =>
    cases a with
    | none => exact evEq_ok (hn.2 rfl rfl) he hne h
    | some a => exact h.elim

theorem EqP_ok {op : BinOp} {t : TypeId} {x y : Value} {K : Value → Prop} (h : EqP P op t x y fun b => K (.bool b)) : Ok P (binOp op t x y) K ∧ P.eqGuardType P.depth t = false := by
  obtain ⟨b, h1, h2, h3⟩ := h
  exact ⟨⟨_, h3, h1⟩, h2⟩

theorem eqGuard_run {op : BinOp} {t : TypeId} {x y : Operand} {a b : Value} (w : World) (h : (∃ k n, a = .int k n) ∨ (∃ s, a = .string s) ∨ (∃ c, a = .bool c) ∨ (∃ p, a = .pointer p) ∨ (∃ p l c, a = .slice p l c) ∨ (∃ r, a = .map r) ∨
    (∃ f g c, a = .func f g c) ∨ a = .nilFunc) : (eqGuard op t x y a b).run P w = .ok () w := by
  rcases h with ⟨k, n, rfl⟩ | ⟨s, rfl⟩ | ⟨c, rfl⟩ | ⟨p, rfl⟩ | ⟨p, l, c, rfl⟩ | ⟨r, rfl⟩ | ⟨f, g, c, rfl⟩ | rfl <;> cases op <;> rfl

theorem eqGuard_agg {op : BinOp} {t : TypeId} {x y : Operand} {a b : Array Value} (w : World) (h : P.eqGuardType P.depth t = false) : (eqGuard op t x y (.agg a) (.agg b)).run P w = .ok () w := by
  cases op <;> simp [eqGuard, h]

section eqs
variable {t : TypeId} {w : World}
theorem eqIn_bool (d : Nat) {a b : Bool} (h : P.underlying t = some .bool) : (Op.equalIn (d + 1) t (.bool a) (.bool b)).run P w = .ok (a == b) w := by simp [Op.equalIn, run_und h]
theorem eqIn_ptr (d : Nat) {e : TypeId} {a : Option Addr} (h : P.underlying t = some (.pointer e)) : (Op.equalIn (d + 1) t (.pointer a) (.pointer none)).run P w = .ok a.isNone w := by cases a <;> simp [Op.equalIn, run_und h]
theorem eqIn_ptr' (d : Nat) {e : TypeId} {b : Option Addr} (h : P.underlying t = some (.pointer e)) : (Op.equalIn (d + 1) t (.pointer none) (.pointer b)).run P w = .ok b.isNone w := by simp [Op.equalIn, run_und h]
theorem eqIn_sl (d : Nat) {e : TypeId} {a : Option Addr} {n c m k : Nat} (h : P.underlying t = some (.slice e)) : (Op.equalIn (d + 1) t (.slice a n c) (.slice none m k)).run P w = .ok a.isNone w := by cases a <;> simp [Op.equalIn, run_und h]
theorem eqIn_sl' (d : Nat) {e : TypeId} {b : Option Addr} {n c m k : Nat} (h : P.underlying t = some (.slice e)) : (Op.equalIn (d + 1) t (.slice none n c) (.slice b m k)).run P w = .ok b.isNone w := by simp [Op.equalIn, run_und h]
theorem eqIn_map (d : Nat) {k e : TypeId} {a : Option Nat} (h : P.underlying t = some (.map k e)) : (Op.equalIn (d + 1) t (.map a) (.map none)).run P w = .ok a.isNone w := by cases a <;> simp [Op.equalIn, run_und h]
theorem eqIn_map' (d : Nat) {k e : TypeId} {b : Option Nat} (h : P.underlying t = some (.map k e)) : (Op.equalIn (d + 1) t (.map none) (.map b)).run P w = .ok b.isNone w := by simp [Op.equalIn, run_und h]
theorem eqIn_fn (d : Nat) {a b : Array TypeId} {c : Bool} {f : Fn} {x y : Array Value} (h : P.underlying t = some (.func a b c)) : (Op.equalIn (d + 1) t (.func f x y) .nilFunc).run P w = .ok false w := by simp [Op.equalIn, run_und h]
theorem eqIn_fn' (d : Nat) {a b : Array TypeId} {c : Bool} (h : P.underlying t = some (.func a b c)) : (Op.equalIn (d + 1) t .nilFunc .nilFunc).run P w = .ok true w := by simp [Op.equalIn, run_und h]
end eqs

theorem evBin2_ok {op : BinOp} {t : TypeId} {ox oy : Operand} {x y : Value} {K : Value → Prop} (h : evBin2 P op t x y K) :
    ∃ v, K v ∧ ∀ w, (do eqGuard op t ox oy x y; binOp op t x y : Sem Value).run P w = .ok v w := by
  have fin : Ok P (binOp op t x y) K → (∀ w, (eqGuard op t ox oy x y).run P w = .ok () w) → ∃ v, K v ∧ ∀ w, (do eqGuard op t ox oy x y; binOp op t x y : Sem Value).run P w = .ok v w := by
    rintro ⟨v, hv, hr⟩ hg
    exact ⟨v, hv, fun w => by simp [hg, hr]⟩
  unfold evBin2 at h
  split at h
  · exact fin (evInt_ok h) fun w => eqGuard_run w (by simp)
  · exact fin (evStr_ok h) fun w => eqGuard_run w (by simp)
  · rename_i a b
    split at h
    · rename_i hu
      exact fin (evEq_ok (b := a == b) (fun w => eqIn_bool 9999 hu) rfl rfl h) fun w => eqGuard_run w (by simp)
    · exact h.elim
  · split at h
    · obtain ⟨h1, h2⟩ := EqP_ok h; exact fin h1 fun w => eqGuard_agg w h2
    · obtain ⟨h1, h2⟩ := EqP_ok h; exact fin h1 fun w => eqGuard_agg w h2
    · exact h.elim
  · rename_i a b
    split at h
    · rename_i hu
      refine fin (nilEq_ok (a := a) (b := b) ⟨?_, ?_⟩ rfl rfl h) fun w => eqGuard_run w (by simp)
      · rintro rfl w; exact eqIn_ptr 9999 hu
      · rintro rfl hb w; rw [show false = b.isNone by cases b <;> simp at hb ⊢]; exact eqIn_ptr' 9999 hu
    · exact h.elim
  · rename_i a _ _ b _ _
    split at h
    · rename_i hu
      refine fin (nilEq_ok (a := a) (b := b) ⟨?_, ?_⟩ rfl rfl h) fun w => eqGuard_run w (by simp)
      · rintro rfl w; exact eqIn_sl 9999 hu
      · rintro rfl hb w; rw [show false = b.isNone by cases b <;> simp at hb ⊢]; exact eqIn_sl' 9999 hu
    · exact h.elim
  · rename_i a b
    split at h
    · rename_i hu
      refine fin (nilEq_ok (a := a) (b := b) ⟨?_, ?_⟩ rfl rfl h) fun w => eqGuard_run w (by simp)
      · rintro rfl w; exact eqIn_map 9999 hu
      · rintro rfl hb w; rw [show false = b.isNone by cases b <;> simp at hb ⊢]; exact eqIn_map' 9999 hu
    · exact h.elim
  · split at h
    · rename_i hu
      exact fin (evEq_ok (b := false) (fun w => eqIn_fn 9999 hu) rfl rfl h) fun w => eqGuard_run w (by simp)
    · exact h.elim
  · split at h
    · rename_i hu
      exact fin (evEq_ok (b := true) (fun w => eqIn_fn' 9999 hu) rfl rfl h) fun w => eqGuard_run w (by simp)
    · exact h.elim
  · exact h.elim
theorem evBin_ok {op : BinOp} {t : TypeId} {ox oy : Operand} {x y : Value} {K : Value → Prop} (h : evBin P op t x y K) :
    ∃ v, K v ∧ ∀ w, (do eqGuard op t ox oy x y; binOp op t x y : Sem Value).run P w = .ok v w := by
  unfold evBin at h
  split at h
  · split at h
    · rename_i hu
      rcases h with ⟨rfl, h⟩ | ⟨⟨f, a, c, rfl⟩, h⟩
      · exact evBin2_ok (by unfold evBin2; rw [hu]; exact h)
      · exact evBin2_ok (by unfold evBin2; rw [hu]; exact h)
    · exact h.elim
  · exact evBin2_ok h

theorem evUn_ok {op : UnOp} {x : Value} {K : Value → Prop} (h : evUn op x K) : Ok P (Op.unary op x) K := by
  unfold evUn at h
  split at h
  · exact ⟨_, h, fun w => rfl⟩
  · exact ⟨_, h, fun w => by simp [Op.unary, Op.intArith]⟩
  · rename_i k a
    refine ⟨_, h, fun w => ?_⟩
    cases hk : k.signed <;> simp [Op.unary, Op.intBits, bitsOf, hk]
  · exact h.elim

theorem cellsL_eq (v : Value) : cellsL v = v.cells.toList := by cases v <;> rfl

theorem splice_get : ∀ (l : List Value) (off : Nat) (vs : List Value), off + vs.length ≤ l.length → ∀ x, (splice l off vs)[x]? = if off ≤ x ∧ x < off + vs.length then vs[x - off]? else l[x]?
  | [], off, vs, h, x => by
    cases vs with
    | nil => simp [splice]
    | cons v vs => simp at h
  | y :: l, 0, [], _, x => by simp [splice]
  | y :: l, 0, v :: vs, h, x => by
    have := splice_get l 0 vs (by simp at h ⊢; omega)
    cases x with
    | zero => simp [splice]
    | succ x => simp only [splice, List.getElem?_cons_succ, this, List.length_cons]; split <;> split <;> first | rfl | (exfalso; omega) | simp
  | y :: l, n + 1, vs, h, x => by
    have := splice_get l n vs (by simp at h ⊢; omega)
    cases x with
    | zero => simp [splice]
    | succ x =>
      simp only [splice, List.getElem?_cons_succ, this]
      by_cases hc : n ≤ x ∧ x < n + vs.length
      · rw [if_pos hc, if_pos (by omega)]; congr 1; omega
      · rw [if_neg hc, if_neg (by omega)]

theorem fold_get (off : Nat) (vs : List Value) : ∀ (k : Nat) (cs : Array Value), off + k + vs.length ≤ cs.size → ∀ x,
    ((vs.zipIdx k).foldl (fun cs (x : Value × Nat) => cs.setIfInBounds (off + x.2) x.1) cs)[x]? = if off + k ≤ x ∧ x < off + k + vs.length then vs[x - (off + k)]? else cs[x]? := by
  induction vs with
  | nil => intro k cs _ x; simp; omega
  | cons v vs ih =>
    intro k cs h x
    simp only [List.length_cons] at h
    simp only [List.zipIdx_cons, List.foldl_cons, List.length_cons]
    rw [ih (k + 1) _ (by simp; omega)]
    by_cases hx : x = off + k
    · subst hx
      rw [if_neg (by omega), if_pos (by omega)]
      have : off + k < cs.size := by omega
      simp [this]
    · by_cases hc : off + (k + 1) ≤ x ∧ x < off + (k + 1) + vs.length
      · rw [if_pos hc, if_pos (by omega)]
        rw [show x - (off + k) = (x - (off + (k + 1))) + 1 from by omega]
        simp
      · rw [if_neg hc, if_neg (by omega), Array.getElem?_setIfInBounds_ne (fun e => hx e.symm)]

theorem fold_splice (vs cells : Array Value) (off : Nat) (h : off + vs.size ≤ cells.size) :
    vs.zipIdx.foldl (fun cs (x : Value × Nat) => cs.setIfInBounds (off + x.2) x.1) cells = (splice cells.toList off vs.toList).toArray := by
  rw [← Array.foldl_toList]
  apply Array.ext_getElem?
  intro x
  have e : vs.zipIdx.toList = vs.toList.zipIdx := by simp
  rw [e]
  have h1 := fold_get off vs.toList 0 cells (by simpa using h) x
  simp only [Nat.add_zero] at h1
  rw [h1]
  have h2 := splice_get cells.toList off vs.toList (by simpa using h) x
  simp only [List.getElem?_toArray, h2]
  simp

theorem fillL_eq {place place' : Nat → Option (Nat × Nat)} (hp : ∀ i, place' i = place i) : ∀ (parts : List (Nat × Value)) (cells : List Value) {r : List Value}, fillL place cells parts = some r → Instr.fill place' cells.toArray parts = some r.toArray
  | [], cells, r, h => by simp only [fillL] at h; cases h; rfl
  | (i, v) :: rest, cells, r, h => by
    simp only [fillL] at h
    simp only [Instr.fill, hp]
    cases hpl : place i with
    | none => rw [hpl] at h; cases h
    | some os =>
      obtain ⟨off, size⟩ := os
      rw [hpl] at h
      simp only at h
      cases hc : Nat.beq (cellsL v).length size && Nat.ble (off + (cellsL v).length) cells.length with
      | false => rw [hc] at h; cases h
      | true =>
        rw [hc] at h
        simp only [cond_true] at h
        simp only [Bool.and_eq_true] at hc
        have h1 := Nat.eq_of_beq_eq_true hc.1
        have h2 := Nat.le_of_ble_eq_true hc.2
        rw [cellsL_eq] at h1 h2
        simp only [Array.length_toList] at h1 h2
        simp only []
        rw [if_neg (by simp [h1]; omega)]
        have := fillL_eq hp rest _ h
        rw [cellsL_eq] at this
        rw [← this, fold_splice _ _ _ (by simpa using h2)]

theorem infoB_some {t : TypeId} (h : infoB P t = true) : ∃ i, P.info? t = some i := by
  unfold infoB at h
  cases hi : P.info? t with
  | none => rw [hi] at h; cases h
  | some i => exact ⟨i, rfl⟩
theorem run_szB {t : TypeId} {w : World} (h : infoB P t = true) : (sizeOf t).run P w = .ok (szOf P t) w := by
  obtain ⟨i, hi⟩ := infoB_some h
  rw [run_size hi, szOf_some hi]

theorem mapM_places (w : World) : ∀ (fs : List Field), infoAll P fs = true → (fs.mapM fun f => do pure (f.offset, ← sizeOf f.type) : Sem (List (Nat × Nat))).run P w = .ok (fs.map fun f => (f.offset, szOf P f.type)) w
  | [], _ => rfl
  | f :: fs, h => by
    simp only [infoAll, Bool.and_eq_true] at h
    have := mapM_places w fs h.2
    simp only [List.mapM_cons, Sem.run_bind, run_szB h.1, Result.andThen_ok, Sem.run_pure, List.map_cons]
    rw [this]
    rfl

theorem evBuild_ok {t : TypeId} {parts : List (Nat × Value)} {K : Value → Prop} (h : evBuild P t parts K) : Ok P (Instr.build t parts.toArray) K := by
  unfold evBuild at h
  split at h
  · exact h.elim
  · rename_i i hi
    split at h
    · exact h.elim
    · rename_i z hz
      have hzr : ∀ w, (zeroValue t).run P w = .ok z w := fun w => by simp [zeroValue, run_info hi, hz]
      split at h
      · rename_i fs hu
        obtain ⟨hc, h⟩ := h.out
        split at h
        · rename_i cells hf
          refine ⟨_, h, fun w => ?_⟩
          have := fillL_eq (place' := fun j => (fs.map fun f => (f.offset, szOf P f.type))[j]?) (fun j => by rw [nth_eq]; simp) parts _ hf
          rw [cellsL_eq] at this
          simp only [Instr.build, Sem.run_bind, hzr, Result.andThen_ok, run_und hu, Array.mapM_eq_mapM_toList, Sem.run_map, mapM_places w _ hc]
          simp only [Array.toArray_toList] at this
          rw [show (List.map (fun f => (f.offset, szOf P f.type)) fs.toList).toArray = fs.map (fun f => (f.offset, szOf P f.type)) from Array.toList_inj.1 (by simp)]
          rw [this]
          rfl
        · exact h.elim
      · rename_i n e hu
        obtain ⟨hc, h⟩ := h.out
        split at h
        · rename_i cells hf
          refine ⟨_, h, fun w => ?_⟩
          have := fillL_eq (place' := fun j => some (j * szOf P e, szOf P e)) (fun j => rfl) parts _ hf
          rw [cellsL_eq] at this
          simp only [Instr.build, Sem.run_bind, hzr, Result.andThen_ok, run_und hu, run_szB hc]
          simp only [Array.toArray_toList] at this
          rw [this]
          rfl
        · exact h.elim
      · exact h.elim

theorem evField_ok {t : TypeId} {x : Value} {f : Nat} {K : Value → Prop} (h : evField P t x f K) : Ok P (Instr.field t x f) K := by
  unfold evField at h
  split at h
  · rename_i fs cs hu
    rw [nth_eq] at h
    cases hf : fs.toList[f]? with
    | none => rw [hf] at h; exact h.elim
    | some fd =>
      rw [hf] at h
      have hf' : fs[f]? = some fd := by simpa using hf
      simp only at h
      cases ha : isAggB P fd.type with
      | true =>
        rw [ha] at h
        obtain ⟨hc, h⟩ := Ck.out h
        obtain ⟨d, hd⟩ : ∃ d, P.underlying fd.type = some d := by
          cases hd : P.underlying fd.type with
          | some d => exact ⟨d, rfl⟩
          | none => simp [isAggB, hd] at ha
        refine ⟨_, h, fun w => ?_⟩
        have hle := Nat.le_of_ble_eq_true hc
        simp only [Instr.field, Sem.run_bind, run_und hu, Result.andThen_ok, hf', asAgg, Sem.run_pure, part, run_isAgg hd, ha, if_true, run_szOf' hd]
        rw [takeN_eq, dropN_eq]
        congr 2
        apply Array.toList_inj.1
        simp [Array.toList_extract, List.extract_eq_take_drop]
      | false =>
        rw [ha] at h
        simp only [cond_false] at h
        cases hd : P.underlying fd.type with
        | none => rw [hd] at h; exact h.elim
        | some d =>
          rw [hd] at h
          simp only at h
          rw [nth_eq] at h
          cases hv : cs.toList[fd.offset]? with
          | none => rw [hv] at h; exact h.elim
          | some v =>
            rw [hv] at h
            have hv' : cs[fd.offset]? = some v := by simpa using hv
            refine ⟨_, h, fun w => ?_⟩
            simp [Instr.field, run_und hu, hf', asAgg, part, run_isAgg hd, ha, hv']
  · exact h.elim

theorem padd_eq (p : Addr) (k : Nat) : padd p k = p.add k := by
  cases k with
  | zero => simp [padd, Addr.add]
  | succ k => rfl

theorem evFieldAddr_ok {s : TypeId} {x : Value} {f : Nat} {K : Value → Prop} (h : evFieldAddr P s x f K) : Ok P (Instr.fieldAt s x f) K := by
  unfold evFieldAddr at h
  split at h
  · rename_i fs a hu
    rw [nth_eq] at h
    cases hf : fs.toList[f]? with
    | none => rw [hf] at h; exact h.elim
    | some fd =>
      rw [hf] at h
      have hf' : fs[f]? = some fd := by simpa using hf
      obtain ⟨hc, h1⟩ := Ck.out h
      obtain ⟨p, rfl, h2⟩ := h1.out
      rw [padd_eq] at h2
      refine ⟨_, h2, fun w => ?_⟩
      have hs : szOf P fd.type ≠ 0 := by
        intro e
        rw [e] at hc; simp at hc
      simp [Instr.fieldAt, run_und hu, hf', Instr.sureAddr, fieldPlace, run_szOf hs, hs]
  · exact h.elim

theorem evIndexAddr_ok {t : TypeId} {x i : Value} {K : Value → Prop} (h : evIndexAddr P t x i K) : Ok P (Instr.indexAt t x i) K := by
  unfold evIndexAddr at h
  split at h
  · rename_i k i
    split at h
    · rename_i e a len cap hu
      obtain ⟨hc, h⟩ := Ck.out h
      obtain ⟨p, rfl, h0, h1, h⟩ := h
      refine ⟨_, h, fun w => ?_⟩
      simp [Instr.indexAt, asIntOf, run_und hu, h0, h1, run_szB hc]
    · rename_i n e a hu
      obtain ⟨hc, h⟩ := Ck.out h
      obtain ⟨p, rfl, h0, h1, h⟩ := h
      refine ⟨_, h, fun w => ?_⟩
      simp [Instr.indexAt, asIntOf, run_und hu, h0, h1, run_szB hc, Instr.sureAddr]
    · exact h.elim
  · exact h.elim

theorem evExtract_ok {x : Value} {i : Nat} {K : Value → Prop} (h : evExtract x i K) : Ok P (Instr.extract x i) K := by
  unfold evExtract at h
  split at h
  · rename_i vs
    rw [nth_eq] at h
    cases hv : vs.toList[i]? with
    | none => rw [hv] at h; exact h.elim
    | some v =>
      rw [hv] at h
      have hv' : vs[i]? = some v := by simpa using hv
      exact ⟨_, h, fun w => by simp [Instr.extract, hv']⟩
  · exact h.elim

theorem evLen_ok {x : Value} {t ty : TypeId} {ts : Array TypeId} {xs : Array Value} {K : Value → Prop} (ht : ts[0]? = some t) (hx : xs[0]? = some x) (h : evLen P x t K) : Ok P (Builtin.len_ ts ty xs) K := by
  unfold evLen at h
  split at h
  · rename_i hu; exact ⟨_, h, fun w => by simp [Builtin.len_, ht, hx, run_und hu, goInt]⟩
  · rename_i hu; exact ⟨_, h, fun w => by simp [Builtin.len_, ht, hx, run_und hu, goInt]⟩
  · rename_i hu; exact ⟨_, h, fun w => by simp [Builtin.len_, ht, hx, run_und hu, goInt]⟩
  · exact h.elim

theorem evCap_ok {x : Value} {t ty : TypeId} {ts : Array TypeId} {xs : Array Value} {K : Value → Prop} (ht : ts[0]? = some t) (hx : xs[0]? = some x) (h : evCap P x t K) : Ok P (Builtin.cap_ ts ty xs) K := by
  unfold evCap at h
  split at h
  · rename_i hu; exact ⟨_, h, fun w => by simp [Builtin.cap_, ht, hx, run_und hu, goInt]⟩
  · rename_i hu; exact ⟨_, h, fun w => by simp [Builtin.cap_, ht, hx, run_und hu, goInt]⟩
  · exact h.elim

theorem minV_ok {x y z : Value} (h : minV x y = some z) (w : World) : (Builtin.min2 x y).run P w = .ok z w := by
  unfold minV at h
  split at h
  · cases h; simp [Builtin.min2]
  · cases h; simp only [Builtin.min2, Op.stringOp, asBool, Sem.run_bind, Sem.run_pure, Result.andThen_ok, sLt, sEq, cond_eq_ite]
  · cases h
theorem maxV_ok {x y z : Value} (h : maxV x y = some z) (w : World) : (Builtin.max2 x y).run P w = .ok z w := by
  unfold maxV at h
  split at h
  · cases h; simp [Builtin.max2]
  · cases h; simp only [Builtin.max2, Op.stringOp, asBool, Sem.run_bind, Sem.run_pure, Result.andThen_ok, sLt, cond_eq_ite]
  · cases h

theorem foldV_ok {f : Value → Value → Option Value} {g : Value → Value → Sem Value} (hg : ∀ x y z, f x y = some z → ∀ w, (g x y).run P w = .ok z w) : ∀ (l : List Value) (x z : Value), foldV f x l = some z → ∀ w, (l.foldlM g x).run P w = .ok z w
  | [], x, z, h, w => by cases h; rfl
  | y :: l, x, z, h, w => by
    simp only [foldV] at h
    cases hf : f x y with
    | none => rw [hf] at h; cases h
    | some u =>
      rw [hf] at h
      simp only [List.foldlM_cons, Sem.run_bind, hg x y u hf w, Result.andThen_ok]
      exact foldV_ok hg l u z h w

theorem evMin_ok {l : List Value} {ts : Array TypeId} {ty : TypeId} {K : Value → Prop} (h : evMM minV l K) : Ok P (Builtin.min_ ts ty l.toArray) K := by
  unfold evMM at h
  split at h
  · exact h.elim
  · rename_i x r
    split at h
    · rename_i v hv
      exact ⟨v, h, fun w => by simp only [Builtin.min_]; exact foldV_ok (fun x y z hz w => minV_ok hz w) r x v hv w⟩
    · exact h.elim
theorem evMax_ok {l : List Value} {ts : Array TypeId} {ty : TypeId} {K : Value → Prop} (h : evMM maxV l K) : Ok P (Builtin.max_ ts ty l.toArray) K := by
  unfold evMM at h
  split at h
  · exact h.elim
  · rename_i x r
    split at h
    · rename_i v hv
      exact ⟨v, h, fun w => by simp only [Builtin.max_]; exact foldV_ok (fun x y z hz w => maxV_ok hz w) r x v hv w⟩
    · exact h.elim

theorem optInt_run {fr : Fr} {x : Option Operand} {l : Option Int} (h : optInt n fr x = some l) : (x = none ∧ l = none) ∨ ∃ o k i, x = some o ∧ evv n fr o = .int k i ∧ l = some i := by
  cases x with
  | none => cases h; exact .inl ⟨rfl, rfl⟩
  | some o =>
    right
    simp only [optInt] at h
    split at h
    · rename_i k i he; cases h; exact ⟨o, k, i, rfl, he, rfl⟩
    · cases h

theorem sliceBound_ok {k : IntKind} {i : Int} {y l : Nat} {code : BoundsCode} (hi : i = (l : Int)) (hl : l ≤ y) (w : World) : (Instr.sliceBound (.int k i) y code).run P w = .ok l w := by
  subst hi
  have : (0 : Int) ≤ l ∧ (l : Int) ≤ y := by omega
  simp [Instr.sliceBound, asIntOf, this]

theorem sliceBounds_ok {isSlice : Bool} {len cap l h m : Nat} {lo hi mx : Option Int} {vlo vhi vmx : Option Value} (w : World)
    (hm : match mx with | some x => x = (m : Int) ∧ m ≤ cap | none => m = cap) (hh : match hi with | some x => x = (h : Int) ∧ h ≤ m | none => h = len ∧ mx = none) (hl : match lo with | some x => x = (l : Int) ∧ l ≤ h | none => l = 0)
    (e1 : (vlo = none ∧ lo = none) ∨ ∃ k i, vlo = some (.int k i) ∧ lo = some i) (e2 : (vhi = none ∧ hi = none) ∨ ∃ k i, vhi = some (.int k i) ∧ hi = some i) (e3 : (vmx = none ∧ mx = none) ∨ ∃ k i, vmx = some (.int k i) ∧ mx = some i) :
    (Instr.sliceBounds isSlice len cap vlo vhi vmx).run P w = .ok (l, h, m) w := by
  rcases e1 with ⟨rfl, rfl⟩ | ⟨k1, i1, rfl, rfl⟩ <;> rcases e2 with ⟨rfl, rfl⟩ | ⟨k2, i2, rfl, rfl⟩ <;> rcases e3 with ⟨rfl, rfl⟩ | ⟨k3, i3, rfl, rfl⟩ <;> simp only [] at hm hh hl
  · subst hm; obtain ⟨rfl, _⟩ := hh; subst hl; simp [Instr.sliceBounds]
  · exact absurd hh.2 (by simp)
  · subst hm; subst hl; simp [Instr.sliceBounds, sliceBound_ok hh.1 hh.2]
  · subst hl; simp [Instr.sliceBounds, sliceBound_ok hh.1 hh.2, sliceBound_ok hm.1 hm.2]
  · subst hm; obtain ⟨rfl, _⟩ := hh; simp [Instr.sliceBounds, sliceBound_ok hl.1 hl.2]
  · exact absurd hh.2 (by simp)
  · subst hm; simp [Instr.sliceBounds, sliceBound_ok hh.1 hh.2, sliceBound_ok hl.1 hl.2]
  · simp [Instr.sliceBounds, sliceBound_ok hh.1 hh.2, sliceBound_ok hm.1 hm.2, sliceBound_ok hl.1 hl.2]

theorem evSlice_ok {fr : Fr} {t : TypeId} {x : Operand} {lo hi mx : Option Operand} {K : Value → Prop} (h : evSlice P n fr t x lo hi mx K) :
    Ok P (Instr.sliceAt t (evv n fr x) (lo.map (evv n fr)) (hi.map (evv n fr)) (mx.map (evv n fr))) K := by
  have conv : ∀ {x : Option Operand} {l : Option Int}, optInt n fr x = some l → (x.map (evv n fr) = none ∧ l = none) ∨ ∃ k i, x.map (evv n fr) = some (.int k i) ∧ l = some i := by
    intro x l h
    rcases optInt_run h with ⟨rfl, rfl⟩ | ⟨o, k, i, rfl, he, rfl⟩
    · exact .inl ⟨rfl, rfl⟩
    · exact .inr ⟨k, i, by simp [he], rfl⟩
  unfold evSlice at h
  split at h
  · rename_i l hh m e1 e2 e3
    have c1 := conv e1
    have c2 := conv e2
    have c3 := conv e3
    split at h
    · rename_i s hu hx
      split at h
      · obtain ⟨a, b, h1, h2, h3⟩ := h
        refine ⟨_, h3, fun w => ?_⟩
        have hn : mx.map (evv n fr) = none := by
          rcases c3 with ⟨h, _⟩ | ⟨_, _, _, h⟩
          · exact h
          · cases h
        have := sliceBounds_ok (P := P) (isSlice := false) (len := s.size) (cap := s.size) (l := a) (h := b) (m := s.size) (mx := none) (vmx := none) w rfl (by cases hh <;> simpa using h1) h2 c1 c2 (.inl ⟨rfl, rfl⟩)
        simp only [Instr.sliceAt, Sem.run_bind, run_und hu, Result.andThen_ok, Instr.slice, hx, hn, Option.isSome_none, Bool.false_eq_true, if_false, Sem.run_pure, this]
      · exact h.elim
    · rename_i e a len cap hu hx
      obtain ⟨hc, h⟩ := Ck.out h
      obtain ⟨l', h', m', g1, g2, g3, hk⟩ := h
      refine ⟨_, hk, fun w => ?_⟩
      have := sliceBounds_ok (P := P) (isSlice := true) w g1 g2 g3 c1 c2 c3
      simp only [Instr.sliceAt, Sem.run_bind, run_und hu, Result.andThen_ok, Instr.slice, hx, this, run_szB hc, Sem.run_pure, cutSl]
    · rename_i k e a hu hx
      obtain ⟨hc, h⟩ := Ck.out h
      obtain ⟨p, rfl, h⟩ := h.out
      obtain ⟨l', h', m', g1, g2, g3, hk⟩ := h
      refine ⟨_, hk, fun w => ?_⟩
      have := sliceBounds_ok (P := P) (isSlice := false) w g1 g2 g3 c1 c2 c3
      simp only [Instr.sliceAt, Sem.run_bind, run_und hu, Result.andThen_ok, hx, Instr.sureAddr, Sem.run_pure, this, run_szB hc, cutSl, Option.map_some]
      split <;> rfl
    · exact h.elim
  · exact h.elim

theorem argsL_eq (fr : Fr) : ∀ l : List Operand, argsL n fr l = l.map (evv n fr)
  | [] => rfl
  | x :: l => by simp [argsL, argsL_eq fr l]
theorem argsL_arr (fr : Fr) (l : Array Operand) : (argsL n fr l.toList).toArray = l.map (evv n fr) := by
  rw [argsL_eq]; apply Array.toList_inj.1; simp
theorem evParts_eq (fr : Fr) : ∀ l : List (Nat × Operand), evParts n fr l = l.map fun x => (x.1, evv n fr x.2)
  | [] => rfl
  | (i, x) :: l => by simp [evParts, evParts_eq fr l]
theorem evParts_arr (fr : Fr) (l : Array (Nat × Operand)) : (evParts n fr l.toList).toArray = l.map fun (i, x) => (i, evv n fr x) := by
  rw [evParts_eq]; apply Array.toList_inj.1; simp

theorem ok_value {m : Sem Value} {K : Value → Prop} (h : Ok P m K) : ∃ v, K v ∧ ∀ w, (do pure (.value (← m)) : Sem Next).run P w = .ok (.value v) w := by
  obtain ⟨v, hv, hr⟩ := h
  exact ⟨v, hv, fun w => by simp [hr]⟩

theorem pickV_eq (t : Bool) (a b : Value) : pickV t a b = if t then a else b := by
  unfold pickV
  split
  · cases t <;> rfl
  · cases t <;> rfl

theorem evP_ok {o : Oper} {fr : Fr} {K : Value → Prop} (h : evP P n o fr K) : ∃ v, K v ∧ ∀ w, (execOp (evv n fr) o).run P w = .ok (.value v) w := by
  obtain ⟨dst, op, type, pos, after, guard⟩ := o
  cases op <;> simp only [evP] at h
  case move x => exact ⟨_, h, fun w => rfl⟩
  case assign x => exact ⟨_, h, fun w => rfl⟩
  case pick c a b =>
    split at h
    · rename_i t hc
      refine ⟨_, h, fun w => ?_⟩
      simp only [execOp, hc, asBool, Sem.run_bind, Sem.run_pure, Result.andThen_ok]
      rw [pickV_eq]
    · exact h.elim
  case build t parts => have := ok_value (evBuild_ok h); rw [evParts_arr] at this; exact this
  case fieldAddr s x f => exact ok_value (evFieldAddr_ok h)
  case nilCheck x =>
    split at h
    · rename_i a hx
      obtain ⟨p, rfl, h⟩ := h.out
      exact ⟨_, h, fun w => by simp [execOp, hx]⟩
    · exact h.elim
  case binOp op t x y _ => 
    obtain ⟨v, hv, hr⟩ := evBin_ok (ox := x) (oy := y) h
    exact ⟨v, hv, fun w => by simp only [execOp, Sem.run_bind] at hr ⊢; simp [hr]⟩
  case unOp op _ x => exact ok_value (evUn_ok h)
  case makeFunc fn first captured => exact ⟨_, h, fun w => by simp [execOp, Instr.makeFunc, argsL_arr]⟩
  case slice t x lo hi mx => exact ok_value (evSlice_ok h)
  case indexAddr t x i => exact ok_value (evIndexAddr_ok h)
  case index t x i =>
    split at h
    · rename_i s k i' hu hx hi
      obtain ⟨b, h0, hb, h⟩ := h
      refine ⟨_, h, fun w => ?_⟩
      simp [execOp, Instr.index, hi, asIntOf, hx, run_und hu, h0, hb]
    · exact ok_value (PureT.ok h)
  case field t x f => exact ok_value (evField_ok h)
  case extract x i => exact ok_value (evExtract_ok h)
  case convert src dst x =>
    split at h
    · exact h.elim
    · rename_i u hs
      split at h
      · rename_i k k' a hd hx
        refine ok_value ⟨_, h, fun w => ?_⟩
        simp only [convert, Sem.run_bind, run_und hs, run_und hd, Result.andThen_ok, hx, Conv.intToInt]
        rfl
      · rename_i s hd hx
        refine ok_value ⟨_, h, fun w => ?_⟩
        simp only [convert, Sem.run_bind, run_und hs, run_und hd, Result.andThen_ok, hx]
        rfl
      · exact h.elim
  case call c =>
    obtain ⟨callee, args, argTypes⟩ := c
    have hargs : ∀ {x : Value} {l : List Value}, argsL n fr args.toList = x :: l → (args.map (evv n fr))[0]? = some x := by
      intro x l e
      rw [← argsL_arr, e]; rfl
    have htys : ∀ {t : TypeId}, nth argTypes.toList 0 = some t → argTypes[0]? = some t := by
      intro t e
      rw [nth_eq] at e; simpa using e
    have run : ∀ {b : Builtin} {m : Sem Value}, (∀ (ty : TypeId) cs, builtin b argTypes ty cs (args.map (evv n fr)) = do pure (.value (← m))) → Ok P m K →
        ∃ v, K v ∧ ∀ w, (execOp (evv n fr) { dst, op := .call { callee := .builtin b, args, argTypes }, type, pos, after, guard }).run P w = .ok (.value v) w := by
      intro b m hb hm
      obtain ⟨v, hv, hr⟩ := ok_value hm
      refine ⟨v, hv, fun w => ?_⟩
      simp only [execOp, resolve, Sem.run_bind, Sem.run_pure, Result.andThen_ok, invoke, hb]
      simpa using hr w
    cases callee with
    | builtin b =>
      cases b <;> simp only at h
      case len =>
        split at h
        · rename_i t x l ht hx
          exact run (fun ty cs => rfl) (evLen_ok (ty := type) (htys ht) (hargs hx) h)
        · exact h.elim
      case cap =>
        split at h
        · rename_i t x l ht hx
          exact run (fun ty cs => rfl) (evCap_ok (ty := type) (htys ht) (hargs hx) h)
        · exact h.elim
      case min => have := evMin_ok (P := P) (ts := argTypes) (ty := type) h; rw [argsL_arr] at this; exact run (fun ty cs => rfl) this
      case max => have := evMax_ok (P := P) (ts := argTypes) (ty := type) h; rw [argsL_arr] at this; exact run (fun ty cs => rfl) this
      all_goals exact h.elim
    | value f => exact h.elim
    | invoke r m => exact h.elim
  all_goals exact h.elim
end pure

/-! ### operations that read -/

section reads
variable {P : Program} {n : Nat}

theorem ReadT.ok {m : Sem Value} {kd : Kd} {h : Mem} {g : Value → Prop} (hr : ReadT P m kd h (curry kd.leaves fun vs => g (kd.build vs))) : ∃ v, g v ∧ ∀ w : World, w.heap = h → m.run P w = .ok v w := by
  obtain ⟨v, hv, hf⟩ := hr
  exact ⟨v, fits_curry (T := id) hf, hv⟩

theorem evR_ok {ops : List Oper} {o : Oper} {fr : Fr} {h : Mem} {K : Value → Prop} (hc : clsOf P o = .read) (hr : evR P n ops o fr h K) :
    ∃ v, K v ∧ ∀ w : World, w.heap = h → (execOp (evv n fr) o).run P w = .ok (.value v) w := by
  have lift : ∀ {m : Sem Value} {ρ : Operand → Value}, (∀ w, (execOp ρ o).run P w = (do pure (.value (← m)) : Sem Next).run P w) → (∃ v, K v ∧ ∀ w : World, w.heap = h → m.run P w = .ok v w) →
      ∃ v, K v ∧ ∀ w : World, w.heap = h → (execOp ρ o).run P w = .ok (.value v) w := by
    rintro m ρ hm ⟨v, hv, hr⟩
    exact ⟨v, hv, fun w hw => by rw [hm]; simp [hr w hw]⟩
  obtain ⟨dst, op, type, pos, after, guard⟩ := o
  cases op <;> simp only [evR] at hr
  case load t a =>
    split at hr
    · rename_i q hx
      obtain ⟨p, rfl, hr⟩ := hr.out
      refine lift (m := loadVar t p) (fun w => ?_) (ReadT.ok hr)
      simp [execOp, Instr.loadAt, hx, Instr.sureAddr]
    · exact hr.elim
  case lookup t x i ok => exact lift (fun w => rfl) (ReadT.ok hr)
  case entry x => exact lift (fun w => rfl) (ReadT.ok hr)
  case convert src dst x =>
    split at hr
    · rename_i e hs
      split at hr
      · rename_i a l c he hx
        simp only [clsOf, hs] at hc
        have hd : P.underlying dst = some .string := by
          split at hc <;> simp_all
        refine lift (m := Conv.bytesToString (.slice a l c)) (fun w => ?_) (ReadT.ok (kd := .one (.leaf .str)) hr)
        simp only [execOp, convert, Sem.run_bind, run_und hs, run_und hd, Result.andThen_ok, hx, run_und he]
      · exact hr.elim
    · exact hr.elim
  case call c =>
    obtain ⟨callee, args, argTypes⟩ := c
    cases callee with
    | builtin b =>
      cases b <;> simp only [clsOf] at hc
      case len =>
        refine lift (m := Builtin.len_ argTypes type (argsL n fr args.toList).toArray) (fun w => ?_) (ReadT.ok (kd := .one (.leaf (.int .i64))) hr)
        simp only [execOp, resolve, Sem.run_bind, Sem.run_pure, Result.andThen_ok, invoke, builtin, argsL_arr]
      all_goals cases hc
    | value f => simp [clsOf] at hc
    | invoke r m => simp [clsOf] at hc
  all_goals exact hr.elim
end reads

/-! ### operations that do more -/

section loud
variable {P : Program} {n : Nat}

theorem NextV.mono {R R' : Value → World → Prop} {r : Result Next} (h : NextV P R r) (hr : ∀ v w, R v w → R' v w) : NextV P R' r := by
  unfold NextV at *
  split at h
  · exact hr _ _ h
  · exact hr _ _ h
  · exact h.mono fun _ _ => hr _ _
  · exact Rows.mono h fun _ _ => hr _ _
  · exact h.mono fun _ _ => hr _ _
  · exact h.elim

theorem NextV.toDo {ro : Option Nat} {ds : List Deferred} {R : Value → World → Prop} {r : Result Next} (h : NextV P R r) : NextDo P ro ds (fun v d w => d = ds ∧ R v w) r := by
  unfold NextV at h
  unfold NextDo
  split at h
  · exact ⟨rfl, h⟩
  · exact ⟨rfl, h⟩
  · exact h.mono fun _ _ h => ⟨rfl, h⟩
  · exact Rows.mono h fun _ _ h => ⟨rfl, h⟩
  · exact h.mono fun _ _ h => ⟨rfl, h⟩
  · exact h.elim

theorem next_value {m : Sem Value} {h : Mem} {K : Value → Mem → Prop} (hr : Runs P m h K) : Invokes P (do pure (.value (← m))) h K := by
  intro w hw
  obtain ⟨v, w', hm, hs, hk⟩ := hr w hw
  simp only [Sem.run_bind, hm, Result.andThen_ok, Sem.run_pure]
  exact ⟨hs, hk⟩
theorem next_skip {m : Sem Unit} {h : Mem} {K : Mem → Prop} (hr : Runs P m h fun _ h' => K h') : Invokes P (do m; pure .skip) h fun v h' => v = undef ∧ K h' := by
  intro w hw
  obtain ⟨v, w', hm, hs, hk⟩ := hr w hw
  simp only [Sem.run_bind, hm, Result.andThen_ok, Sem.run_pure]
  exact ⟨hs, rfl, hk⟩

theorem Invokes.mono {m : Sem Next} {h : Mem} {K K' : Value → Mem → Prop} (hr : Invokes P m h K) (hk : ∀ v h, K v h → K' v h) : Invokes P m h K' :=
  fun w hw => (hr w hw).mono fun _ _ ⟨a, b⟩ => ⟨a, hk _ _ b⟩
theorem Runs.mono {α : Type} {m : Sem α} {h : Mem} {K K' : α → Mem → Prop} (hr : Runs P m h K) (hk : ∀ v h, K v h → K' v h) : Runs P m h K' :=
  fun w hw => let ⟨v, w', a, b, c⟩ := hr w hw; ⟨v, w', a, b, hk _ _ c⟩

theorem PrimT.ok {m : Sem Value} {kd : Kd} {h : Mem} {g : Value → Mem → Prop} (hr : PrimT P m kd h (curry kd.leaves fun vs => g (kd.build vs))) : Runs P m h g :=
  Runs.mono hr fun _ h' hf => fits_curry (T := fun k : Mem → Prop => k h') hf

theorem New.ok {c : Array Value} {e : TypeId} {h : Mem} {K : Nat → Mem → Prop} (hr : New (.cells c e) h K) : Runs P (newRow e c) h fun a h' => ∃ b, a = ⟨b, 0, none⟩ ∧ K b h' := by
  intro w hw
  subst hw
  refine ⟨⟨w.heap.size, 0, none⟩, { w with heap := w.heap.push (.cells c e) }, by simp [newRow], ⟨rfl, rfl, rfl⟩, _, rfl, hr _ _ ⟨rfl, rfl⟩⟩

theorem zerosL_get (z : List Value) (hz : 0 < z.length) : ∀ (k i : Nat), (zerosL z k)[i]? = if i < k * z.length then z[i % z.length]? else none
  | 0, i => by simp [zerosL]
  | k + 1, i => by
    have ih := zerosL_get z hz k
    simp only [zerosL, List.getElem?_append, ih]
    by_cases h : i < z.length
    · have : i < (k + 1) * z.length := Nat.lt_of_lt_of_le h (by rw [Nat.succ_mul]; omega)
      rw [if_pos h, if_pos this, Nat.mod_eq_of_lt h]
    · rw [if_neg h]
      have e : i % z.length = (i - z.length) % z.length := by
        rw [Nat.mod_eq_sub_mod (by omega)]
      rw [e]
      by_cases h2 : i - z.length < k * z.length
      · rw [if_pos h2, if_pos (by rw [Nat.succ_mul]; omega)]
      · rw [if_neg h2, if_neg (by rw [Nat.succ_mul]; omega)]

theorem zeros_eq (z : Array Value) (hz : 0 < z.size) (k : Nat) : (Array.range (k * z.size)).map (z[· % z.size]!) = (zerosL z.toList k).toArray := by
  apply Array.ext_getElem?
  intro i
  have h1 := zerosL_get z.toList (by simpa using hz) k i
  simp only [Array.length_toList] at h1
  simp only [List.getElem?_toArray, h1]
  by_cases h : i < k * z.size
  · have hm : i % z.size < z.size := Nat.mod_lt _ hz
    simp [h, hm]
  · simp [h]

theorem evBuildSlice_ok {t : TypeId} {len : Nat} {parts : List (Nat × Value)} {h : Mem} {K : Value → Mem → Prop} (hr : evBuildSlice P t len parts h K) : Runs P (Instr.buildSlice t len parts.toArray) h K := by
  unfold evBuildSlice at hr
  split at hr
  · rename_i e hu
    split at hr
    · exact hr.elim
    · rename_i i hi
      split at hr
      · exact hr.elim
      · rename_i z hz
        obtain ⟨hc, hr⟩ := hr.out
        simp only [Bool.and_eq_true, Bool.not_eq_true'] at hc
        obtain ⟨⟨c1, c2⟩, c3⟩ := hc
        have c1 := Nat.le_of_ble_eq_true c1
        have c2 := Nat.eq_of_beq_eq_true c2
        have c3 : i.size ≠ 0 := by intro e; rw [e] at c3; simp at c3
        rw [cellsL_eq] at c2 hr
        simp only [Array.length_toList] at c2
        split at hr
        · rename_i cells hf
          have hfill := fillL_eq (place' := fun j => some (j * i.size, i.size)) (fun j => rfl) parts _ hf
          intro w hw
          obtain ⟨a, w', hn, hs, b, rfl, hk⟩ := New.ok (P := P) hr w hw
          refine ⟨_, w', ?_, hs, hk⟩
          simp only [Instr.buildSlice, Sem.run_bind, run_und hu, Result.andThen_ok, run_size hi]
          rw [if_neg (by omega)]
          by_cases h0 : len * i.size = 0
          · have : len = 0 := (Nat.mul_eq_zero.1 h0).resolve_right c3
            subst this
            simp only [zerosL] at hfill
            have e0 : ∀ z : Array Value, (Array.range 0).map (z[· % z.size]!) = #[] := fun z => by simp
            simp only [Nat.zero_mul, if_true, Sem.run_bind, Sem.run_pure, Result.andThen_ok]
            rw [e0]
            have hfill' : Instr.fill (fun j => some (j * i.size, i.size)) #[] parts.toArray.toList = some cells.toArray := by simpa using hfill
            simp only [hfill] 
            simp [hn]
          · simp only [if_neg h0, Sem.run_bind, Sem.run_pure, Result.andThen_ok]
            have hzr : (zeroValue e).run P w = .ok z w := by simp [zeroValue, run_info hi, hz]
            simp only [hzr, Result.andThen_ok]
            rw [← c2, zeros_eq _ (by omega), c2, hfill]
            simp [hn]
        · exact hr.elim
  · exact hr.elim

theorem evL_ok {o : Oper} {fr : Fr} {h : Mem} {K : Value → Mem → Prop} (hr : evL P n o fr h K) : (∀ c, o.op ≠ .defer c) ∧ Invokes P (execOp (evv n fr) o) h K := by
  refine ⟨?_, ?_⟩
  · intro c e
    simp only [evL, e] at hr
  have skip : ∀ {m : Sem Unit}, Runs P m h (fun _ h' => K undef h') → Invokes P (do m; pure .skip) h K := fun hm => (next_skip hm).mono fun v h' ⟨e, hk⟩ => by rw [e]; exact hk
  obtain ⟨dst, op, type, pos, after, guard⟩ := o
  cases op <;> simp only [evL] at hr
  case alloc e =>
    split at hr
    · rename_i z hz
      unfold zeroOf at hz
      split at hz
      · rename_i i hi
        split at hz
        · rename_i z' hz'
          cases hz
          rw [cellsL_eq, Array.toArray_toList] at hr
          refine next_value (m := Instr.alloc e true (.tuple #[])) ?_
          intro w hw
          obtain ⟨a, w', hn, hs, b, rfl, hk⟩ := New.ok (P := P) hr w hw
          refine ⟨_, w', ?_, hs, hk⟩
          simp [Instr.alloc, zeroValue, run_info hi, hz', newVar, hn]
        · cases hz
      · cases hz
    · exact hr.elim
  case box e x =>
    rw [cellsL_eq, Array.toArray_toList] at hr
    refine next_value (m := Instr.box e (evv n fr x)) ?_
    intro w hw
    obtain ⟨a, w', hn, hs, b, rfl, hk⟩ := New.ok (P := P) hr w hw
    refine ⟨_, w', ?_, hs, hk⟩
    simp [Instr.box, newVar, hn]
  case buildSlice t len parts =>
    have := evBuildSlice_ok hr
    rw [evParts_arr] at this
    exact next_value this
  case store t a x =>
    split at hr
    · rename_i q hx
      obtain ⟨p, rfl, hr⟩ := hr.out
      refine skip (m := Instr.storeAt t (evv n fr a) (evv n fr x)) ?_
      rw [hx]
      intro w hw
      obtain ⟨u, w', h1, h2, h3⟩ := hr w hw
      exact ⟨u, w', by simpa [Instr.storeAt, Instr.sureAddr] using h1, h2, h3⟩
    · exact hr.elim
  case convert src dst x => exact next_value (PrimT.ok hr)
  case makeMap t r =>
    cases r with
    | none => exact next_value (PrimT.ok hr)
    | some r => exact next_value (PrimT.ok hr)
  case makeSlice t l c => exact next_value (PrimT.ok hr)
  case mapUpdate t m k x => exact skip hr
  case insert t m k x => exact skip hr
  case range t x => exact next_value (PrimT.ok (kd := .one (.leaf .ptr)) hr)
  case next it isString =>
    refine next_value (m := Instr.next (evv n fr it) isString type) ?_
    exact Runs.mono hr fun v h' ⟨b, rest, e, hk⟩ => by rw [e]; exact hk
  case call c =>
    obtain ⟨callee, args, argTypes⟩ := c
    cases callee with
    | builtin b =>
      simp only at hr
      split at hr
      · rename_i m hm
        have e : ∀ ty cs, builtin b argTypes ty cs (args.map (evv n fr)) = (do pure (.value (← m)) : Sem Next) ∨ ty ≠ type := by
          intro ty cs
          by_cases ht : ty = type
          · left; subst ht
            rw [argsL_arr] at hm
            cases b <;> simp only [semB, Option.some.injEq, reduceCtorEq] at hm <;> subst hm <;> rfl
          · right; exact ht
        have h1 := next_value (PrimT.ok hr)
        intro w hw
        have := h1 w hw
        simp only [execOp, resolve, Sem.run_bind, Sem.run_pure, Result.andThen_ok, invoke]
        rw [(e type _).resolve_right (by simp)]
        exact this
      · exact hr.elim
    | value f =>
      have hv : ∀ v : Value, CallV P v (argsL n fr args.toList) (kdOf P type) h (curry (kdOf P type).leaves fun vs => K ((kdOf P type).build vs)) →
          Invokes P (do let d ← Deferred.ofValue v (args.map (evv n fr)); invoke d.target d.args) h K := by
        intro v hv
        unfold CallV at hv
        rw [argsL_arr] at hv
        exact hv.mono fun v h' hf => fits_curry (T := fun k : Mem → Prop => k h') hf
      cases f with
      | func g =>
        simp only at hr
        unfold CallF at hr
        rw [argsL_arr] at hr
        have h2 : Invokes P (callFunc g (args.map (evv n fr))) h K := hr.mono fun v h' hf => fits_curry (T := fun k : Mem → Prop => k h') hf
        intro w hw
        have := h2 w hw
        simp only [execOp, resolve, Sem.run_bind, evv, Deferred.ofValue, Sem.run_pure, Result.andThen_ok, invoke]
        simpa using this
      | tmp t => exact hv _ hr
      | const v => exact hv _ hr
      | global g => exact hv _ hr
    | invoke r m => exact hr.elim
  all_goals exact hr.elim
end loud
end Go.Dn
