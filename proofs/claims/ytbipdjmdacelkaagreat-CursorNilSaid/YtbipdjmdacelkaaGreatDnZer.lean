/- Zeros appended. -/
import Derived.Test.YtbipdjmdacelkaaGreatDnCpy
import Derived.IntWalk
namespace Go.Dn
open Go

/-- so many zeros are appended, and there is no room for them -/
theorem append_zeros {P : Program} {h : Mem} {base : Nat} {t it ty e : TypeId} {size bytes : Nat} (ht : P.underlying t = some (.slice e)) (hit : P.underlying it = some (.int .i64)) (hi : infoOk P e size bytes = true) {s : Sl} {xs : List Value} (hown : Owns h base e size s xs)
    {m : Nat} (hgrow : s.cap < s.len + m) (hbytes : (s.len + m) * bytes ≤ 140737488355328) (hb0 : 0 < bytes) (hbase : base ≤ h.size) {K : Sl → Mem → Prop}
    (hk : ∀ s' h' zs, zs.length = m * size → s'.len = s.len + m → s'.a = some ⟨h.size, 0, none⟩ → Owns h' base e size s' (xs ++ zs) → Ext h.size h h' → K s' h') :
    PrimT P (Builtin.append_ #[t, it] ty #[.slice s.a s.len s.cap, .int .i64 (m : Int)]) (.one (.leaf .sl)) h K := by
  obtain ⟨i, z, hi', hz, hsz, hby, hzs, hpos⟩ := infoOk_spec hi
  subst hsz hby
  have hle : s.len ≤ s.cap := by
    rcases hown.2 with ⟨hv, h0⟩ | ⟨g, cap, cur, hv, hB, hg, hc, _⟩
    · omega
    · simp only [Value.slice.injEq] at hv; rw [hv.2.2]; exact hc
  have hm : 0 < m := by omega
  have hsmall : s.len + m ≤ 140737488355328 := Nat.le_trans (Nat.le_mul_of_pos_right _ hb0) hbytes
  have hmb : m * i.bytes ≤ 140737488355328 := Nat.le_trans (Nat.mul_le_mul_right _ (by omega)) hbytes
  have hfit := growslice_fits (need := s.len + m) (old := s.cap) (bytes := i.bytes) hgrow hbytes
  intro w hw
  subst hw
  have ew : IntKind.i64.wrap (m : Int) = (m : Int) := IntWalk.i64_in _ ⟨by omega, by omega⟩
  have h0 : ¬ ((m : Int) < 0) := by omega
  have hmb' : ¬ (281474976710656 < (m : Int) * (i.bytes : Int)) := by
    have : ((m * i.bytes : Nat) : Int) = (m : Int) * (i.bytes : Int) := Int.natCast_mul ..
    omega
  have hn : ¬ (s.len + m ≤ s.cap) := by omega
  have h63' : ¬ (9223372036854775807 < ((s.len : Int) + (m : Int))) := by omega
  have h48' : ¬ (281474976710656 < Builtin.nextslicecap (s.len + m) s.cap * i.bytes) := by omega
  have hfo : ∀ W : World, W.heap = w.heap → (Builtin.firstCells i.size s.len (.slice s.a s.len s.cap)).run P W = .ok xs.toArray W := by
    intro W hW
    cases ha : s.a with
    | none =>
      have : xs = [] := List.eq_nil_of_length_eq_zero (by rw [hown.1, (Owns.nil0 hown ha).1]; simp)
      rw [this]; rfl
    | some a =>
      have hc := Owns.cells hown ha
      exact run_firstCells_some (P := P) W i.size s.len a s.len s.cap xs hown.1 (fun j v hv => by rw [cell_eq, hW]; exact hc j v hv)
  refine ⟨.slice (some ⟨w.heap.size, 0, none⟩) (s.len + m) (grownCap w (s.len + m) s.cap e),
    w.drew.alloc (.cells (xs.toArray ++ Builtin.zeroCells z.cells m ++ Builtin.zeroCells z.cells (grownCap w (s.len + m) s.cap e - (s.len + m))) e), ?_, ⟨rfl, rfl, rfl⟩, [_], rfl, ⟨some ⟨w.heap.size, 0, none⟩, s.len + m, grownCap w (s.len + m) s.cap e⟩, .sl _ _ _, ?_⟩
  · have hd := hfo w.drew rfl
    have ha : ∀ W : World, (asInt (.int .i64 (m : Int))).run P W = .ok (m : Int) W := fun W => rfl
    simp [Builtin.append_, run_underlying ht, run_underlying hit, sizeOf, typeInfo, zeroValue, hi', hz, ha, ew, h0, hmb', hn, h63', h48', Question.forced, newRow, grownCap, hd]
    intro h'
    rcases Nat.mul_eq_zero.1 h' with h'' | h'' <;> omega
  · have hge := grownCap_ge w (s.len + m) s.cap e
    have hcm : grownCap w (s.len + m) s.cap e ≤ maxLen := grownCap_le_maxLen w (s.len + m) s.cap e (by simp only [maxLen]; omega)
    have hzl : (Builtin.zeroCells z.cells m).toList.length = m * i.size := by rw [Array.length_toList, size_zeroCells, hzs]
    have hlen : (xs ++ (Builtin.zeroCells z.cells m).toList).length = (s.len + m) * i.size := by rw [List.length_append, hown.1, hzl, Nat.add_mul]
    refine hk _ _ (Builtin.zeroCells z.cells m).toList hzl rfl rfl ⟨hlen, .inr ⟨w.heap.size, _, _, rfl, hbase, push_get_size _ _, hge, hcm, ?_, ?_⟩⟩ (Ext.push _ _ (Nat.le_refl _))
    · simp only [Array.size_append, List.size_toArray, size_zeroCells, hzs, hown.1, ← Nat.add_mul]
      congr 1
      omega
    · simp only [Array.toList_append]
      rw [← hlen]
      exact List.take_left
end Go.Dn
