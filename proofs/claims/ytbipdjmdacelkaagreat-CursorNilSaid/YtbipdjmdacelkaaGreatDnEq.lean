/- Refs, and entries, held against each other. -/
import Derived.Test.YtbipdjmdacelkaaGreatDnCu
import Derived.Laws.StructEq
set_option linter.unusedVariables false
namespace Go.Dn.W
open Go Go.Dn Go.Proofs

theorem eqFields_cons {P : Program} {w : World} {d : Nat} {xs ys : Array Value} {f : Field} {fs : List Field} {a b : Value} {r : Bool} (hn : (f.name != "_") = true) (ha : (part f.type xs f.offset).run P w = .ok a w) (hb : (part f.type ys f.offset).run P w = .ok b w)
    (he : (Op.equalIn d f.type a b).run P w = .ok r w) {r' : Bool} (hr : (Op.eqFields d xs ys fs).run P w = .ok r' w) : (Op.eqFields d xs ys (f :: fs)).run P w = .ok (r && r') w := by
  have hn : f.name ≠ "_" := by simpa using hn
  simp only [Op.eqFields, if_pos hn, Sem.run_bind, ha, hb, he, Result.andThen_ok]
  cases r with
  | false => simp
  | true => simpa using hr

noncomputable def fieldsB (t : TypeId) : List (Bool × TypeId × Nat) := (PG.fieldsOf t).toList.map fun f => (f.name != "_", f.type, f.offset)
theorem fb_ref : fieldsB ty_api_Ref = [(true, ty_uint64, 0), (true, ty_int, 1), (true, ty_int, 2)] := by kernel_rfl
theorem fb_en : fieldsB ty_api_Entry = [(true, ty_string, 0), (true, ty_api_Ref, 1)] := by kernel_rfl
theorem st_ref : PG.underlying ty_api_Ref = some (.struct (PG.fieldsOf ty_api_Ref)) := by kernel_rfl
theorem st_en : PG.underlying ty_api_Entry = some (.struct (PG.fieldsOf ty_api_Entry)) := by kernel_rfl
theorem sh_ref : PG.stoodInHeld ty_api_Ref = false := by kernel_rfl
theorem sh_en : PG.stoodInHeld ty_api_Entry = false := by kernel_rfl

theorem eqFieldsB_cons {w : World} {d : Nat} {xs ys : Array Value} {fs : List Field} {l : List (Bool × TypeId × Nat)} {t : TypeId} {o : Nat} {a b : Value} {r r' : Bool} (hf : fs.map (fun f => (f.name != "_", f.type, f.offset)) = (true, t, o) :: l)
    (ha : (part t xs o).run PG w = .ok a w) (hb : (part t ys o).run PG w = .ok b w) (he : (Op.equalIn d t a b).run PG w = .ok r w) (hr : ∀ fs' : List Field, fs'.map (fun f => (f.name != "_", f.type, f.offset)) = l → (Op.eqFields d xs ys fs').run PG w = .ok r' w) :
    (Op.eqFields d xs ys fs).run PG w = .ok (r && r') w := by
  cases fs with
  | nil => cases hf
  | cons f fs =>
    simp only [List.map_cons, List.cons.injEq, Prod.mk.injEq] at hf
    obtain ⟨⟨h1, rfl, rfl⟩, h2⟩ := hf
    exact eqFields_cons h1 ha hb he (hr fs h2)
theorem eqFieldsB_nil {w : World} {d : Nat} {xs ys : Array Value} {fs : List Field} (hf : fs.map (fun f => (f.name != "_", f.type, f.offset)) = []) : (Op.eqFields d xs ys fs).run PG w = .ok true w := by
  cases fs with
  | nil => rfl
  | cons f fs => cases hf

theorem eqIn_ref (d : Nat) (w : World) (a0 a1 a2 b0 b1 b2 : Int) : (Op.equalIn (d + 2) ty_api_Ref (.agg #[.int .u64 a0, .int .i64 a1, .int .i64 a2]) (.agg #[.int .u64 b0, .int .i64 b1, .int .i64 b2])).run PG w = .ok (a0 == b0 && (a1 == b1 && (a2 == b2 && true))) w := by
  rw [run_equalIn_agg w (d + 1) _ _ _ st_ref sh_ref]
  refine eqFieldsB_cons fb_ref (by kernel_rfl) (by kernel_rfl) (run_equalIn_int w d _ .u64 .u64 _ _ und_u) fun fs hf => ?_
  refine eqFieldsB_cons hf (by kernel_rfl) (by kernel_rfl) (run_equalIn_int w d _ .i64 .i64 _ _ und_i) fun fs hf => ?_
  exact eqFieldsB_cons hf (by kernel_rfl) (by kernel_rfl) (run_equalIn_int w d _ .i64 .i64 _ _ und_i) fun fs hf => eqFieldsB_nil hf
theorem eqIn_en (d : Nat) (w : World) (ka kb : ByteArray) (a0 a1 a2 b0 b1 b2 : Int) : (Op.equalIn (d + 3) ty_api_Entry (.agg #[.string ka, .int .u64 a0, .int .i64 a1, .int .i64 a2]) (.agg #[.string kb, .int .u64 b0, .int .i64 b1, .int .i64 b2])).run PG w
    = .ok ((ka.toList == kb.toList) && ((a0 == b0 && (a1 == b1 && (a2 == b2 && true))) && true)) w := by
  rw [run_equalIn_agg w (d + 2) _ _ _ st_en sh_en]
  refine eqFieldsB_cons fb_en (by kernel_rfl) (by kernel_rfl) (run_equalIn_string w (d + 1) _ _ _ und_str) fun fs hf => ?_
  exact eqFieldsB_cons hf (a := .agg #[.int .u64 a0, .int .i64 a1, .int .i64 a2]) (b := .agg #[.int .u64 b0, .int .i64 b1, .int .i64 b2]) (by kernel_rfl) (by kernel_rfl) (eqIn_ref d w _ _ _ _ _ _) fun fs hf => eqFieldsB_nil hf
def rEq (a0 a1 a2 b0 b1 b2 : Int) : Bool := decide (a0 = b0 ∧ a1 = b1 ∧ a2 = b2)
theorem rEq_of (a0 a1 a2 b0 b1 b2 : Int) : (a0 == b0 && (a1 == b1 && (a2 == b2 && true))) = rEq a0 a1 a2 b0 b1 b2 := by unfold rEq; simp only [Bool.and_true, Bool.decide_and]; rfl
theorem EqP.ref {op : BinOp} {a0 a1 a2 b0 b1 b2 : Int} {K : Bool → Prop} (hop : op = .eql ∨ op = .neq) (hk : K (if op = .eql then rEq a0 a1 a2 b0 b1 b2 else !rEq a0 a1 a2 b0 b1 b2)) : EqP PG op ty_api_Ref (.agg #[.int .u64 a0, .int .i64 a1, .int .i64 a2]) (.agg #[.int .u64 b0, .int .i64 b1, .int .i64 b2]) K := by
  refine ⟨_, fun w => ?_, by kernel_rfl, hk⟩
  rcases hop with rfl | rfl
  · rw [run_eql_struct, show (10000 : Nat) = 9998 + 2 from rfl, eqIn_ref, rEq_of]; rfl
  · rw [run_neq_struct, show (10000 : Nat) = 9998 + 2 from rfl, eqIn_ref, rEq_of]; rfl
theorem EqP.en {op : BinOp} {ka kb : ByteArray} {a0 a1 a2 b0 b1 b2 : Int} {K : Bool → Prop} (hop : op = .eql ∨ op = .neq) (hk : K (if op = .eql then sEq ka kb && rEq a0 a1 a2 b0 b1 b2 else !(sEq ka kb && rEq a0 a1 a2 b0 b1 b2))) :
    EqP PG op ty_api_Entry (.agg #[.string ka, .int .u64 a0, .int .i64 a1, .int .i64 a2]) (.agg #[.string kb, .int .u64 b0, .int .i64 b1, .int .i64 b2]) K := by
  have e : ((ka.toList == kb.toList) && ((a0 == b0 && (a1 == b1 && (a2 == b2 && true))) && true)) = (sEq ka kb && rEq a0 a1 a2 b0 b1 b2) := by rw [rEq_of, Bool.and_true]; rfl
  refine ⟨_, fun w => ?_, by kernel_rfl, hk⟩
  rcases hop with rfl | rfl
  · rw [run_eql_struct, show (10000 : Nat) = 9997 + 3 from rfl, eqIn_en, e]; rfl
  · rw [run_neq_struct, show (10000 : Nat) = 9997 + 3 from rfl, eqIn_en, e]; rfl
theorem rEq_self (a b c : Int) : rEq a b c a b c = true := by unfold rEq; simp
theorem en_eq_self {ka : ByteArray} {a b c : Int} {K : Bool → Prop} (q : K true) : EqP PG BinOp.eql ty_api_Entry (.agg #[.string ka, .int .u64 a, .int .i64 b, .int .i64 c]) (.agg #[.string ka, .int .u64 a, .int .i64 b, .int .i64 c]) K :=
  EqP.en (.inl rfl) (by rw [if_pos rfl, sEq_self, rEq_self]; exact q)
end Go.Dn.W
