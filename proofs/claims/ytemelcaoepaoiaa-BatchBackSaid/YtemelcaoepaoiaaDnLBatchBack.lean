/- BatchBack: the statement, from what the function asks for. -/
import Derived.Test.YtemelcaoepaoiaaRows
import Derived.Test.YtemelcaoepaoiaaDnRead
import Derived.Test.YtemelcaoepaoiaaDnLaw
import Derived.Test.YtemelcaoepaoiaaDnClosed
import Derived.WalkKit
import Derived.ProofKit
import Derived.OpenShut
import Derived.ChangeOld
import Derived.Below
import Derived.Carry
import Derived.SizedLaws
namespace Go.Proofs.Ytemelcaoepaoiaa.batchBack
open Go.ChangeShapes Go.WideShapes Go.ChangeAt Go.RowKit
open Go.Dn Go.Dn.W
set_option linter.unusedVariables false
theorem own : ownKnob Try.prog.godebug = none := by kernel_rfl
theorem laidOut : laidOutB Try.prog = true := closed1
set_option maxRecDepth 100000 in
theorem lifted (os : Os) (started : os.Started) (H : Type) (enc : TypeId × Value → H) :
    ReturnsInHanded {} Try.checked os 16 .any (Rows.batchBackSpec.pre6 enc Try.prog Try.f16 Rows.batchBackRow.domain false) (Rows.batchBackSpec.post enc Try.prog Try.f16 false true false false) := by
  refine returnsInHanded_of_change_sized (C := Try.checked) own started (by kernel_rfl) Try.func16
    (ChangeSpec.witness6 (enc := enc) (C := Try.checked) false ⟨#[], #[.agg #[.int .i64 0, .int .u64 0, .slice none 0 0, .int .u64 0, .int .i64 0, .int .i64 0, .int .i64 0], .slice none 0 0, .int .i64 0], []⟩ 8 (by kernel_rfl) (by kernel_rfl) (by kernel_rfl) (by kernel_rfl)) ?_
  intro W base args ds gs before hval0 hW hcnd hsz0 _
  have hsz : (DataW.weightsEach Try.prog (Try.f16.params.toList ++ Rows.batchBackSpec.plain.varTypes Try.prog) (ds ++ gs)).all (· ≤ reachBytes) = true := hsz0
  have hval : ∀ (j : Nat) t v, Try.f16.params[j]? = some t → args[j]? = some v → Value.okWide Try.prog W .any base t v := hval0
  have hW' := hW
  obtain ⟨p, q, hA0, hV, rfl, hfz, hnd⟩ := hW
  have hA : DataW.TrodAll enc Try.prog W 0 (fun _ => true) true Try.f16.params.toList args.toList ds p := hA0
  rw [Try.params16] at hA hval hsz
  obtain ⟨v0, vs0, d0, ds0, p0, q0, hargs, rfl, rfl, h0, r0⟩ := trodAll_cons hA
  obtain ⟨v1, vs1, d1, ds1, p1, q1, rfl, rfl, rfl, h1, r1⟩ := trodAll_cons r0
  obtain ⟨v2, vs2, d2, ds2, p2, q2, rfl, rfl, rfl, h2, r2⟩ := trodAll_cons r1
  obtain ⟨rfl, rfl, rfl⟩ := trodAll_nil r2
  obtain rfl : args = #[v0, v1, v2] := by cases args; simp_all
  obtain ⟨rfl, rfl⟩ := trodVars_none hV
  have m0 : ∀ x ∈ p0, x.block < W.heap.size := fun x hx => by simpa using hW'.lt x (by simp [hx])
  have a0 := Arg.of h0 hsz (j := 0) rfl rfl
  have k0 := hval 0 _ v0 rfl rfl
  rw [← PG_eq] at a0 k0
  obtain ⟨s0, l0, rfl, x0⟩ := in_record k0 a0
  have m1 : ∀ x ∈ p1, x.block < W.heap.size := fun x hx => by simpa using hW'.lt x (by simp [hx])
  have a1 := Arg.of h1 hsz (j := 1) rfl rfl
  have k1 := hval 1 _ v1 rfl rfl
  rw [← PG_eq] at a1 k1
  obtain ⟨s1, l1, rfl, x1⟩ := in_bytesC k1 a1
  have m2 : ∀ x ∈ p2, x.block < W.heap.size := fun x hx => by simpa using hW'.lt x (by simp [hx])
  have a2 := Arg.of h2 hsz (j := 2) rfl rfl
  have k2 := hval 2 _ v2 rfl rfl
  rw [← PG_eq] at a2 k2
  obtain ⟨s2, rfl, x2⟩ := in_int k2 a2
  clear hA0 hval0 hsz0 hsz hval
  have call := law_done PM (W := W) (args := [.agg #[.int .i64 l0.kind, .int .u64 l0.seq, .slice s0.a s0.len s0.cap, .int .u64 l0.ms, .int .i64 l0.mf, .int .i64 l0.mt, .int .i64 l0.mn], .slice s1.a s1.len s1.cap, .int .i64 s2]) ok_dunnagelaw10_BatchBack ((eq_dunnagelaw10_BatchBack l0.kind l0.seq s0 l0.ms l0.mf l0.mt l0.mn s1 s2 W.heap _).symm ▸ (law_BatchBack x0 x1 x2 fun h' x => ⟨rfl, x⟩))
  rw [PG_eq] at call
  refine call.mono fun e W' ⟨he, bel⟩ => ?_
  subst he
  exact ⟨_, rfl, _, _, _, [], _, [], hW', trodAll_mk1 (shut_bool Try.underlying4 _), (trodAll_cons_mk (Below.trod laidOut (by kernel_rfl) (of_decide_eq_true (by kernel_rfl)) h0 bel m0) (trodAll_cons_mk (Below.trod laidOut (by kernel_rfl) (of_decide_eq_true (by kernel_rfl)) h1 bel m1) (trodAll_cons_mk (Below.trod laidOut (by kernel_rfl) (of_decide_eq_true (by kernel_rfl)) h2 bel m2) trodAll_mk0))), rfl, bel.frame _, fun h => by cases h⟩
set_option maxRecDepth 100000 in
theorem over : Rows.batchBackRow.holds Try.pinned (OpenSpec.ofChange Rows.batchBackSpec) :=
  OpenClaim.holds_of_wide 16 Try.f16 rfl rfl rfl rfl rfl rfl rfl ⟨rfl, rfl, rfl, rfl, rfl⟩ rfl rfl rfl rfl rfl (by as_aux_lemma => kernel_rfl) Try.func16 (joinedFacts_of (by as_aux_lemma => kernel_rfl) closed1 closed2 (by as_aux_lemma => kernel_rfl) (by as_aux_lemma => kernel_rfl) (by as_aux_lemma => kernel_rfl) closed6 (by as_aux_lemma => kernel_rfl) closed8 (by as_aux_lemma => kernel_rfl) (by as_aux_lemma => kernel_rfl) (by as_aux_lemma => kernel_rfl) (by as_aux_lemma => kernel_rfl) (by as_aux_lemma => kernel_rfl) (by as_aux_lemma => kernel_rfl) (by as_aux_lemma => kernel_rfl) (by as_aux_lemma => kernel_rfl) (by as_aux_lemma => kernel_rfl) (by as_aux_lemma => kernel_rfl) (by as_aux_lemma => kernel_rfl) (by as_aux_lemma => kernel_rfl) (by as_aux_lemma => kernel_rfl) closed22 (by as_aux_lemma => kernel_rfl) closed24 closed25 closed26 closed27 (by as_aux_lemma => kernel_rfl) (by as_aux_lemma => kernel_rfl) (by as_aux_lemma => kernel_rfl) (by as_aux_lemma => kernel_rfl))
    (of_decide_eq_true (by kernel_rfl)) (by unfold Func.isWrapper; first | (rw [if_pos (by decide +kernel)]; kernel_rfl) | (rw [if_neg (by decide +kernel)]; exact ⟨rfl, rfl⟩))
    (fun os started H enc _ => lifted os started H enc)
end Go.Proofs.Ytemelcaoepaoiaa.batchBack
namespace Go.Proofs.Ytemelcaoepaoiaa
/-- The statement. -/
theorem batchBack_holds : Rows.BatchBackSaid := batchBack.over
end Go.Proofs.Ytemelcaoepaoiaa
