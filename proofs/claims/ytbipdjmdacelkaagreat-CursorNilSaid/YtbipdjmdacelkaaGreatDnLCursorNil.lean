/- CursorNil: the statement, from what the function asks for. -/
import Derived.Test.YtbipdjmdacelkaaGreatRows
import Derived.Test.YtbipdjmdacelkaaGreatDnNi
import Derived.Test.YtbipdjmdacelkaaGreatDnLaw
import Derived.Test.YtbipdjmdacelkaaGreatDnClosed
import Derived.WalkKit
import Derived.ProofKit
import Derived.OpenShut
import Derived.ChangeOld
import Derived.Below
import Derived.Carry
import Derived.SizedLaws
namespace Go.Proofs.YtbipdjmdacelkaaGreat.cursorNil
open Go.ChangeShapes Go.WideShapes Go.ChangeAt Go.RowKit
open Go.Dn Go.Dn.W
set_option linter.unusedVariables false
theorem own : ownKnob Tryz.prog.godebug = none := by kernel_rfl
theorem laidOut : laidOutB Tryz.prog = true := closed1
set_option maxRecDepth 100000 in
theorem lifted (os : Os) (started : os.Started) (H : Type) (enc : TypeId × Value → H) :
    ReturnsInHanded {} Tryz.checked os 9 .any (Rows.cursorNilSpec.pre6 enc Tryz.prog Tryz.f9 Rows.cursorNilRow.domain false) (Rows.cursorNilSpec.post enc Tryz.prog Tryz.f9 false true false false) := by
  refine returnsInHanded_of_change_sized (C := Tryz.checked) own started (by kernel_rfl) Tryz.func9
    (ChangeSpec.witness6 (enc := enc) (C := Tryz.checked) false ⟨#[], #[.string ByteArray.empty, .int .i64 0], []⟩ 8 (by kernel_rfl) (by kernel_rfl) (by kernel_rfl) (by kernel_rfl)) ?_
  intro W base args ds gs before hval0 hW hcnd hsz0 _
  have hsz : (DataW.weightsEach Tryz.prog (Tryz.f9.params.toList ++ Rows.cursorNilSpec.plain.varTypes Tryz.prog) (ds ++ gs)).all (· ≤ reachBytes) = true := hsz0
  have hval : ∀ (j : Nat) t v, Tryz.f9.params[j]? = some t → args[j]? = some v → Value.okWide Tryz.prog W .any base t v := hval0
  have hW' := hW
  obtain ⟨p, q, hA0, hV, rfl, hfz, hnd⟩ := hW
  have hA : DataW.TrodAll enc Tryz.prog W 0 (fun _ => true) true Tryz.f9.params.toList args.toList ds p := hA0
  rw [Tryz.params9] at hA hval hsz
  obtain ⟨v0, vs0, d0, ds0, p0, q0, hargs, rfl, rfl, h0, r0⟩ := trodAll_cons hA
  obtain ⟨v1, vs1, d1, ds1, p1, q1, rfl, rfl, rfl, h1, r1⟩ := trodAll_cons r0
  obtain ⟨rfl, rfl, rfl⟩ := trodAll_nil r1
  obtain rfl : args = #[v0, v1] := by cases args; simp_all
  obtain ⟨rfl, rfl⟩ := trodVars_none hV
  have m0 : ∀ x ∈ p0, x.block < W.heap.size := fun x hx => by simpa using hW'.lt x (by simp [hx])
  have a0 := Arg.of h0 hsz (j := 0) rfl rfl
  have k0 := hval 0 _ v0 rfl rfl
  rw [← PG_eq] at a0 k0
  obtain ⟨s0, rfl, x0⟩ := in_str k0 a0
  have m1 : ∀ x ∈ p1, x.block < W.heap.size := fun x hx => by simpa using hW'.lt x (by simp [hx])
  have a1 := Arg.of h1 hsz (j := 1) rfl rfl
  have k1 := hval 1 _ v1 rfl rfl
  rw [← PG_eq] at a1 k1
  obtain ⟨s1, rfl, x1⟩ := in_int k1 a1
  clear hA0 hval0 hsz0 hsz hval
  have call := law_done PM (W := W) (args := [.string s0, .int .i64 s1]) ok_dunnagelaw18_CursorNil ((eq_dunnagelaw18_CursorNil s0 s1 W.heap _).symm ▸ (law_CursorNil x0 x1 fun h' x => ⟨rfl, x⟩))
  rw [PG_eq] at call
  refine call.mono fun e W' ⟨he, bel⟩ => ?_
  subst he
  exact ⟨_, rfl, _, _, _, [], _, [], hW', trodAll_mk1 (shut_bool Tryz.underlying4 _), (trodAll_cons_mk (Below.trod laidOut (by kernel_rfl) (of_decide_eq_true (by kernel_rfl)) h0 bel m0) (trodAll_cons_mk (Below.trod laidOut (by kernel_rfl) (of_decide_eq_true (by kernel_rfl)) h1 bel m1) trodAll_mk0)), rfl, bel.frame _, fun h => by cases h⟩
set_option maxRecDepth 100000 in
set_option maxHeartbeats 4000000 in
theorem over : Rows.cursorNilRow.holds Tryz.pinned (OpenSpec.ofChange Rows.cursorNilSpec) :=
  OpenClaim.holds_of_wide 9 Tryz.f9 rfl rfl rfl rfl rfl rfl rfl ⟨rfl, rfl, rfl, rfl, rfl⟩ rfl rfl rfl rfl rfl (by as_aux_lemma => kernel_rfl) Tryz.func9 (joinedFacts_of (by as_aux_lemma => kernel_rfl) closed1 closed2 (by as_aux_lemma => kernel_rfl) (by as_aux_lemma => kernel_rfl) (by as_aux_lemma => kernel_rfl) closed6 (by as_aux_lemma => kernel_rfl) closed8 (by as_aux_lemma => kernel_rfl) (by as_aux_lemma => kernel_rfl) (by as_aux_lemma => kernel_rfl) (by as_aux_lemma => kernel_rfl) (by as_aux_lemma => kernel_rfl) (by as_aux_lemma => kernel_rfl) (by as_aux_lemma => kernel_rfl) (by as_aux_lemma => kernel_rfl) (by as_aux_lemma => kernel_rfl) (by as_aux_lemma => kernel_rfl) (by as_aux_lemma => kernel_rfl) (by as_aux_lemma => kernel_rfl) (by as_aux_lemma => kernel_rfl) closed22 (by as_aux_lemma => kernel_rfl) closed24 closed25 closed26 closed27 (by as_aux_lemma => kernel_rfl) (by as_aux_lemma => kernel_rfl) (by as_aux_lemma => kernel_rfl) (by as_aux_lemma => kernel_rfl))
    (of_decide_eq_true (by kernel_rfl)) (by unfold Func.isWrapper; first | (rw [if_pos (by decide +kernel)]; kernel_rfl) | (rw [if_neg (by decide +kernel)]; exact ⟨rfl, rfl⟩))
    (fun os started H enc _ => lifted os started H enc)
end Go.Proofs.YtbipdjmdacelkaaGreat.cursorNil
namespace Go.Proofs.YtbipdjmdacelkaaGreat
/-- The statement. -/
theorem cursorNil_holds : Rows.CursorNilSaid := cursorNil.over
end Go.Proofs.YtbipdjmdacelkaaGreat
