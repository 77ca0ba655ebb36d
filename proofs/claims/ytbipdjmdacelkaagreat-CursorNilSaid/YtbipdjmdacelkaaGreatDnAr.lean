/- The arena: its heads, its places, its words and roots. -/
import Derived.Test.YtbipdjmdacelkaaGreatDnU
import Derived.Test.YtbipdjmdacelkaaGreatDnWA
import Derived.Maps.Own
import Derived.Maps.Range
import Derived.Carry
set_option linter.unusedVariables false
namespace Go.Dn.W
open Go Go.Dn Go.Proofs Go.ChangeMaps Go.Maps

/-! ### a set of places -/
noncomputable abbrev RBo : Value → Option (DataW Unit × List MemPlace) := plainElem PG ty_bool
def il (j : Nat) : Lit := .int .i64 (j : Int)
theorem wf_il {i : Nat} (hi : i ≤ 9223372036854775807) : (Lit.int .i64 (i : Int)).wf = true := by
  have e : IntKind.i64.min = -9223372036854775808 := by decide
  simp [Lit.wf, e]; omega
theorem KI : Keyed PG ty_int := int_keyed und_i
theorem key_il {j : Nat} (hj : j ≤ 9223372036854775807) : keyOf PG ty_int (.int .i64 (j : Int)) = some (il j) := keyOf_int_mk und_i (wf_il hj)
theorem il_inj {a b : Nat} (h : il a = il b) : a = b := by
  unfold il at h
  simp only [Lit.int.injEq, true_and] at h
  omega
theorem il_key (j : Nat) : WideAt.IsKeyLit (il j) := trivial
theorem plain_bool_inv {v : Value} {b : Bool} {ps : List MemPlace} (h : RBo v = some (.lit (.bool b), ps)) : v = .bool b := by
  unfold RBo plainElem at h
  rw [und_bool] at h
  cases v <;> simp_all
/-- block b is a set of places, of at most n -/
def SetIs (h : Mem) (b n : Nat) (m : Nat → Bool) : Prop := ∃ D : DataW Unit, (wOf h).ownsMap PG ty_int RBo b n D ∧ IsMap D ∧ ∀ j, D.atKey (il j) (.lit (.bool false)) = .lit (.bool (m j))
section
variable {h : Mem} {b n : Nat} {m : Nat → Bool}
theorem SetIs.lt (x : SetIs h b n m) : b < h.size := let ⟨_, o, _⟩ := x; o.lt
theorem SetIs.keep {h' : Mem} (x : SetIs h b n m) (hb : h'[b]? = h[b]?) : SetIs h' b n m := by
  obtain ⟨D, ⟨es, cl, h1, h2⟩, h3⟩ := x
  exact ⟨D, ⟨es, cl, hb.trans h1, h2⟩, h3⟩
theorem SetIs.obj (x : SetIs h b n m) : ∃ es cl, h[b]? = some (.map es cl) := let ⟨_, ⟨es, cl, h1, _⟩, _⟩ := x; ⟨es, cl, h1⟩
theorem SetIs.make {t : TypeId} {K : Option Nat → Mem → Prop} (hk : ∀ h', SetIs h' h.size 0 (fun _ => false) → Ext h.size h h' → h'.size = h.size + 1 → K (some h.size) h') : PrimT PG (Instr.makeMap t none) (.one (.leaf .map)) h K := by
  intro w hw
  subst hw
  refine ⟨_, _, (rfl : (Instr.makeMap t none).run PG w = .ok (.map (some w.heap.size)) (w.alloc (.map #[] 0))), ⟨rfl, rfl, rfl⟩, [.map (some w.heap.size)], rfl, some w.heap.size, .map _, hk _ ⟨.map [], ?_, ⟨_, rfl⟩, fun j => rfl⟩ ?_ (by simp)⟩
  · exact World.ownsMap_made w PG ty_int RBo
  · have g := World.grownBy_alloc w (.map #[] 0) none
    exact ⟨g.size, fun k hk => g.block k hk (by simp)⟩
theorem SetIs.put {j : Nat} {K : Mem → Prop} (x : SetIs h b n m) (hn : n < 281474976710656) (hj : j ≤ 9223372036854775807)
    (q : ∀ h', SetIs h' b (n + 1) (fun i => decide (i = j) || m i) → Upd b h h' → K h') : PrimU PG (Instr.mapUpdate ty_map_int_bool (.map (some b)) (.int .i64 (j : Int)) (.bool true)) h K := by
  intro w hw
  subst hw
  obtain ⟨D, own, hD, hm⟩ := x
  have own' : w.ownsMap PG ty_int RBo b n D := own
  obtain ⟨es0, cl0, h0, F0, hs0, rfl⟩ := own'
  have own' : w.ownsMap PG ty_int RBo b n _ := own
  obtain ⟨w', hrun, own2, gr⟩ := own'.update KI und_map (by simp only [maxLen]; omega) (key_il hj) (plainElem_bool und_bool true)
  have hsz : w'.heap.size = w.heap.size := by
    have : (Instr.mapUpdate ty_map_int_bool (.map (some b)) (.int .i64 (j : Int)) (.bool true)).run PG w = .ok () w' := hrun
    obtain ⟨es', clock', hrun', _⟩ := Maps.fit_store (R' := RBo) KI und_map h0 F0 (Nat.lt_of_le_of_lt hs0 (by simp only [maxLen]; omega)) (fun _ _ _ _ hz => hz) (key_il hj) (plainElem_bool und_bool true)
    rw [hrun'] at this
    cases this
    simp [setBlock]
  refine ⟨(), w', hrun, ⟨gr.os, gr.tape, gr.output⟩, q _ ⟨_, own2, hD.put _ _, fun i => ?_⟩ ⟨hsz, fun k hk => ?_⟩⟩
  · by_cases e : i = j
    · subst e
      rw [atKey_put_same hD (il_key _)]; simp
    · rw [atKey_put_other (fun e' => e (il_inj e')), hm i]; simp [e]
  · by_cases hk' : k < w.heap.size
    · exact gr.block k hk' (by simp [hk])
    · rw [Array.getElem?_eq_none (by omega), Array.getElem?_eq_none (by omega)]
theorem SetIs.look {j : Nat} {K : Bool → Prop} (x : SetIs h b n m) (hj : j ≤ 9223372036854775807) (hk : K (m j)) : ReadT PG (Instr.lookup ty_map_int_bool (.map (some b)) (.int .i64 (j : Int)) false) (.one (.leaf .bool)) h K := by
  refine ⟨.bool (m j), fun w hw => ?_, [.bool (m j)], rfl, m j, .bool _, hk⟩
  subst hw
  obtain ⟨D, own, hD, hm⟩ := x
  have own' : w.ownsMap PG ty_int RBo b n D := own
  obtain ⟨v, ps, hrun, hv⟩ := own'.lookup KI und_map (z := .bool false) (by kernel_rfl) (plainElem_bool und_bool false) (key_il hj)
  rw [hm j] at hv
  rw [hrun, plain_bool_inv hv]
end

/-! ### heads -/
def headOf (size ptrs kind : Nat) : Nat := size * 4096 + ptrs * 16 + kind
theorem tdiv_nat (a b : Nat) : ((a : Int)).tdiv (b : Int) = ((a / b : Nat) : Int) := rfl
theorem tmod_nat (a b : Nat) : ((a : Int)).tmod (b : Int) = ((a % b : Nat) : Int) := rfl
section
variable {h : Mem}
theorem ct_Size {v : Nat} {Q : Int → Mem → Prop} (hv : v ≤ 4294967295) (q : Q ((v / 4096 : Nat) : Int) h) : CallF PG fn_cells_Size [.int .u32 (v : Int)] (.one (.leaf (.int .i64))) h Q := by
  refine call_cells_Size ?_
  unfold wp_cells_Size
  rw [show ((v : Int)).tdiv 4096 = ((v / 4096 : Nat) : Int) from rfl, u32_eq (by omega), i64_nat (by omega)]
  exact q
theorem ct_Ptrs {v : Nat} {Q : Int → Mem → Prop} (hv : v ≤ 4294967295) (q : Q ((v / 16 % 256 : Nat) : Int) h) : CallF PG fn_cells_Ptrs [.int .u32 (v : Int)] (.one (.leaf (.int .i64))) h Q := by
  refine call_cells_Ptrs ?_
  unfold wp_cells_Ptrs
  rw [show ((v : Int)).tdiv 16 = ((v / 16 : Nat) : Int) from rfl, u32_eq (by omega), show (((v / 16 : Nat) : Int)).tmod 256 = ((v / 16 % 256 : Nat) : Int) from rfl, i64_nat (by omega)]
  exact q
theorem ct_Kind {v : Nat} {Q : Int → Mem → Prop} (hv : v ≤ 4294967295) (q : Q ((v % 16 : Nat) : Int) h) : CallF PG fn_cells_Kind [.int .u32 (v : Int)] (.one (.leaf (.int .i64))) h Q := by
  refine call_cells_Kind ?_
  unfold wp_cells_Kind
  rw [show ((v : Int)).tmod 16 = ((v % 16 : Nat) : Int) from rfl, i64_nat (by omega)]
  exact q
theorem ct_Head {size ptrs kind : Nat} {Q : Int → Int → Mem → Prop} (h1 : ptrs ≤ 255) (h2 : kind < 16) (h3 : ptrs < size) (h4 : size < 1048576) (q : Q ((headOf size ptrs kind : Nat) : Int) 0 h) :
    CallF PG fn_cells_Head [.int .i64 (size : Int), .int .i64 (ptrs : Int), .int .i64 (kind : Int)] (.tup [.leaf (.int .u32), .leaf (.int .i64)]) h Q := by
  refine call_cells_Head ⟨fun b h' => b = false ∧ h' = h, ?_, Br.f (by simp) ⟨by simp; omega, rfl⟩⟩
  rintro _ _ h' ⟨rfl, rfl⟩
  refine Br.f rfl (Br.f (by simp) (Br.f (by simp; omega) (Br.f (by simp; omega) (Br.f (by simp; omega) ?_))))
  have e2 : IntKind.i64.wrap (IntKind.i64.wrap (IntKind.i64.wrap ((size : Int) * 4096) + IntKind.i64.wrap ((ptrs : Int) * 16)) + IntKind.i64.wrap ((kind : Int) * 1)) = ((headOf size ptrs kind : Nat) : Int) := by
    unfold headOf
    rw [i64_eq (n := (size : Int) * 4096) (by omega) (by omega), i64_eq (n := (ptrs : Int) * 16) (by omega) (by omega), i64_eq (n := (kind : Int) * 1) (by omega) (by omega), i64_eq (n := (size : Int) * 4096 + (ptrs : Int) * 16) (by omega) (by omega), i64_eq (by omega) (by omega)]
    omega
  rw [e2, u32_eq (by unfold headOf; omega)]
  exact q
end
end Go.Dn.W
