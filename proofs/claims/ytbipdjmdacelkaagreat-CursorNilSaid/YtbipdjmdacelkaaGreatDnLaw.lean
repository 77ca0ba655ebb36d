/- From what a law's function asks for to the call that its statement speaks of. -/
import Derived.Test.YtbipdjmdacelkaaGreatDnNames
import Derived.Below
namespace Go.Dn
open Go Go.RowKit

/-- the blocks below stand as they stood -/
structure Ext (B : Nat) (h h' : Mem) : Prop where
  size : h.size ≤ h'.size
  block : ∀ k, k < B → h'[k]? = h[k]?

theorem Ext.refl (B : Nat) (h : Mem) : Ext B h h := ⟨Nat.le_refl _, fun _ _ => rfl⟩
theorem Ext.trans {B : Nat} {a b c : Mem} (h : Ext B a b) (k : Ext B b c) : Ext B a c := ⟨Nat.le_trans h.size k.size, fun i hi => (k.block i hi).trans (h.block i hi)⟩
theorem Ext.less {B B' : Nat} {a b : Mem} (h : Ext B a b) (hb : B' ≤ B) : Ext B' a b := ⟨h.size, fun i hi => h.block i (Nat.lt_of_lt_of_le hi hb)⟩

theorem Ext.after {a b c : Mem} (x : Ext a.size a b) (y : Ext b.size b c) : Ext a.size a c := x.trans (y.less x.size)

theorem law_done {P : Program} (hm : P.follows .mixedOrders = true) {f : FuncId} {T : Tab} {args : List Value} {W : World} (hok : okF P f T = true)
    (he : evFn P f T args (.one (.leaf .bool)) W.heap fun (b : Bool) (h' : Mem) => b = true ∧ Ext W.heap.size W.heap h') :
    Calls P f args.toArray W fun e W' => e = .returned (.bool true) ∧ Below W.heap.size W W' := by
  refine (evFn_calls hm hok he).mono fun e W' ⟨v, h1, hs, vs, hv, hq⟩ => ?_
  match vs, hq with
  | [], hq => exact hq.elim
  | [x], hq =>
    obtain ⟨b, hb, hq1, hq2⟩ := hq
    subst hq1
    cases hb
    subst hv
    exact ⟨h1, hs.os, hs.tape, hs.output, hq2.size, hq2.block⟩
  | _ :: _ :: _, hq => obtain ⟨_, _, hq⟩ := hq; exact hq.elim
end Go.Dn
