/- A new arena; a forest without nodes. -/
import Derived.Test.YtbipdjmdacelkaaGreatDnFl
import Derived.Test.YtbipdjmdacelkaaGreatDnWB
set_option linter.unusedVariables false
namespace Go.Dn.W
open Go Go.Dn Go.Proofs

section
variable {h : Mem}
/-- all of the arena is new -/
def ArNew (n : Nat) (h : Mem) (ka : Nat) : Prop := ∀ j, InAr h ka j → n ≤ j
theorem ArNew.arx {n m ka : Nat} {h h' : Mem} (a : ArNew n h ka) (x : ArX ka m h h') (hm : n ≤ m) : ArNew n h' ka ∧ Ext n h h' :=
  ⟨fun j hj => by
    rcases x.inar j hj with h1 | h1
    · omega
    · exact a j h1, x.size, fun j hj => x.block j (by omega) fun hi => by have := a j hi; omega⟩
theorem ArNew.keep {n ka : Nat} {h h' : Mem} (a : ArNew n h ka) (e : h'[ka]? = h[ka]?) : ArNew n h' ka := fun j hj => a j (inAr_of e hj)
def Ar.new (words : Nat) : Ar := ⟨[0], words, List.replicate 16 0, setOf []⟩
theorem ct_arenaNew {words : Int} {Q : Option Addr → Int → Mem → Prop} (q1 : words < 16 ∨ 1048576 < words → Q none 1 h)
    (q2 : ∀ n : Nat, words = (n : Int) → 16 ≤ n → n ≤ 1048576 → ∀ h', Ext h.size h h' → ArAt h' h.size (Ar.new n) → ArNew h.size h' h.size → Q (some ⟨h.size, 0, none⟩) 0 h') : CallF PG fn_arena_New [.int .i64 words] (.tup [.leaf .ptr, .leaf (.int .i64)]) h Q := by
  refine call_arena_New (Br.mk (fun h1 => q1 (.inl (by simpa using h1))) fun h1 => Br.mk (fun h2 => q1 (.inr (by simpa using h2))) fun h2 => ?_)
  have h1 : 16 ≤ words := by simpa using h1
  have h2 : words ≤ 1048576 := by simpa using h2
  obtain ⟨n, rfl⟩ : ∃ n : Nat, words = (n : Int) := ⟨words.toNat, by omega⟩
  refine New.go fun g2 _ x2 z2 r2 => New.go fun g4 _ x4 z4 r4 => make_full (v := icell 0) (n := 16) und_ints info_i (by kernel_rfl) (by decide) (by decide) fun g6 o6 x6 => ?_
  have w6 : Owns g6 0 ty_uint32 1 ⟨some ⟨g2.size, 0, none⟩, 1, 1⟩ ([0].map wcell) := ⟨rfl, .inr ⟨g2.size, 1, _, rfl, Nat.zero_le _, x6.row' r4, Nat.le_refl _, by decide, rfl, rfl⟩⟩
  have o6' : Owns g6 0 ty_int 1 ⟨some ⟨g4.size, 0, none⟩, 16, 16⟩ ((List.replicate 16 0).map icell) := by
    have := o6.base (Nat.zero_le _)
    simpa [List.map_replicate] using this
  refine ct_fill (sw := ⟨some ⟨g2.size, 0, none⟩, 1, 1⟩) (sr := ⟨some ⟨g4.size, 0, none⟩, 16, 16⟩) (W := [0]) (R := List.replicate 16 0) (l := []) (most := n) ⟨by show 1 ≤ n; omega, by omega⟩ (by simp) (by intro v hv; rw [List.mem_replicate] at hv; omega) .nil w6 o6' (x6.row' (x4.row' r2)) fun mp h' z f hmp a => ?_
  have z4 := x4.size
  have z6 := x6.size
  refine q2 n rfl (by omega) (by omega) h' ⟨by omega, fun j hj => (f j (by omega) (by omega)).trans ((x6.block j (by omega)).trans ((x4.block j (by omega)).trans (x2.block j hj)))⟩ ⟨_, _, _, _, a⟩ fun j hj => ?_
  rcases a.inar hj with rfl | ⟨ad, ha, rfl⟩ | ⟨ad, ha, rfl⟩ | rfl
  · exact Nat.le_refl _
  · cases ha; show _ ≤ g2.size; omega
  · cases ha; show _ ≤ g4.size; omega
  · omega
end
end Go.Dn.W
