/- Appends within the room there is; clearing. -/
import Derived.Test.YtbipdjmdacelkaaGreatDnPair
namespace Go.Dn
open Go

theorem Owns.prefix {h : Mem} {B : Nat} {e : TypeId} {size : Nat} {s : Sl} {xs : List Value} (o : Owns h B e size s xs) {n : Nat} (hn : n ≤ s.len) : Owns h B e size ⟨s.a, n, s.cap⟩ (xs.take (n * size)) := by
  have hle : n * size ≤ s.len * size := Nat.mul_le_mul_right _ hn
  refine ⟨by rw [List.length_take, o.1]; exact Nat.min_eq_left hle, ?_⟩
  rcases o.2 with ⟨hv, h0⟩ | ⟨g, cap, cur, hv, hB, hg, hc, hm, hs, ht⟩
  · simp only [Value.slice.injEq] at hv
    have hn0 : n = 0 := by omega
    subst hn0
    exact .inl ⟨by rw [hv.1, hv.2.2], rfl⟩
  · simp only [Value.slice.injEq] at hv
    refine .inr ⟨g, cap, cur, by rw [hv.1, hv.2.2], hB, hg, by show n ≤ cap; omega, hm, hs, ?_⟩
    rw [← ht, List.take_take]
    congr 1
    exact (Nat.min_eq_left hle).symm

theorem append_room {P : Program} {h : Mem} {base : Nat} {t ty e : TypeId} {size bytes : Nat} (ht : P.underlying t = some (.slice e)) (hi : infoOk P e size bytes = true) {s : Sl} {xs : List Value} (hown : Owns h base e size s xs)
    {v : Sl} {news : List Value} (hl : news.length = v.len * size) (hnews : ∀ a, v.a = some a → Cells h a news) (hnil : v.a = none → v.len = 0 ∧ v.cap = 0) (h1 : ∀ u ∈ news, u.oneCell' = true)
    (hroom : s.len + v.len ≤ s.cap) (hs : s.a.isSome = true) {K : Sl → Mem → Prop}
    (hk : ∀ h', Owns h' base e size ⟨s.a, s.len + v.len, s.cap⟩ (xs ++ news) → Grown s h h' → h'.size = h.size → K ⟨s.a, s.len + v.len, s.cap⟩ h') :
    PrimT P (Builtin.append_ #[t, t] ty #[.slice s.a s.len s.cap, .slice v.a v.len v.cap]) (.one (.leaf .sl)) h K := by
  obtain ⟨i, z, hi', hz, hsz, hby, hzs, hpos⟩ := infoOk_spec hi
  subst hsz
  obtain ⟨va, vl, vc⟩ := v
  rcases hown.2 with ⟨hv, _⟩ | ⟨g, cap, cur, hv, hB, hg, hc, hm, hcs, htk⟩
  · simp only [Value.slice.injEq] at hv; rw [hv.1] at hs; cases hs
  · simp only [Value.slice.injEq] at hv
    obtain ⟨hva, _, hvc⟩ := hv
    obtain ⟨sa, sl, sc⟩ := s
    simp only at hva hvc hl hroom hs hk hc htk hown hnil hnews ⊢
    subst hva hvc
    have hg : h[g]? = some (.cells cur e (0, 0)) := hg
    cases va with
    | none =>
      obtain ⟨h0, hcc⟩ := hnil rfl
      obtain rfl : vl = 0 := h0
      obtain rfl : vc = 0 := hcc
      have hn : news = [] := List.eq_nil_of_length_eq_zero (by rw [hl]; simp)
      subst hn
      intro w hw
      subst hw
      refine ⟨_, w, run_append_owned_none w base t ty e i i.size ht hi' _ _ xs hown, Same.refl _, [_], rfl, ⟨some ⟨g, 0, none⟩, sl, sc⟩, .sl _ _ _, ?_⟩
      exact hk w.heap (by rw [List.append_nil]; exact hown) ⟨Nat.le_refl _, fun _ _ _ => rfl⟩ rfl
    | some a =>
      intro w hw
      subst hw
      have hfit : sl * i.size + news.length ≤ cur.size := by rw [hl, hcs, ← Nat.add_mul]; exact Nat.mul_le_mul_right _ hroom
      have hr := run_append_room (P := P) w t ty e i ht hi' g sl sc cur hg a vl vc news hl (hnews a rfl) h1 hroom hfit
      refine ⟨_, _, hr, ⟨rfl, rfl, rfl⟩, [_], rfl, ⟨some ⟨g, 0, none⟩, sl + vl, sc⟩, .sl _ _ _, hk _ ⟨?_, .inr ⟨g, sc, _, rfl, hB, setRow_heap w g cur _ e _ hg, hroom, hm, ?_, ?_⟩⟩ ⟨?_, fun k _ hne => setRow_other w g k _ fun e => hne ⟨g, 0, none⟩ rfl e⟩ ?_⟩
      · rw [List.length_append, hown.1, hl, Nat.add_mul]
      · simp only [List.size_toArray, List.length_append, List.length_take, List.length_drop, Array.length_toList]
        omega
      · have hlx : (xs ++ news).length = (sl + vl) * i.size := by rw [List.length_append, hown.1, hl, Nat.add_mul]
        rw [htk, ← hlx]
        exact List.take_left
      · simp [World.setRow]
      · simp [World.setRow]

/-- zero values that can be stored -/
def infoZ (P : Program) (e : TypeId) : Bool := match P.info? e with | some i => (match i.zero with | some z => (cellsL z).all (·.oneCell') | none => false) | none => false

theorem clear_row {P : Program} {h : Mem} {t ty e e' : TypeId} {size bytes g o n c : Nat} {cur : Array Value} (ht : P.underlying t = some (.slice e)) (hi : infoOk P e size bytes = true) (hz1 : infoZ P e = true) (hg : h[g]? = some (.cells cur e' (0, 0)))
    (hfit : o + n * size ≤ cur.size) {K : Mem → Prop} (hk : ∀ h' zs, zs.length = n * size → Upd g h h' → h'[g]? = some (.cells (cur.toList.take o ++ zs ++ cur.toList.drop (o + n * size)).toArray e' (0, 0)) → K h') :
    PrimT P (Builtin.clear_ #[t] ty #[.slice (some ⟨g, o, none⟩) n c]) (.tup []) h K := by
  obtain ⟨i, z, hi, hz, hsz, hby, hzs, hpos⟩ := infoOk_spec hi
  have hone : ∀ u ∈ (Builtin.zeroCells z.cells n).toList, u.oneCell' = true := by
    intro u hu
    unfold infoZ at hz1
    rw [hi] at hz1
    simp only [hz, cellsL_eq] at hz1
    simp only [Builtin.zeroCells, Array.toList_map, List.mem_map] at hu
    obtain ⟨j, hj, rfl⟩ := hu
    have hlt : j % z.cells.size < z.cells.size := Nat.mod_lt _ (by omega)
    rw [getElem!_pos z.cells _ hlt]
    exact List.all_eq_true.1 hz1 _ (by simp)
  have hlen : (Builtin.zeroCells z.cells n).toList.length = n * size := by rw [Array.length_toList, size_zeroCells, hzs]
  intro w hw
  subst hw
  cases n with
  | zero =>
    refine ⟨.tuple #[], w, ?_, Same.refl _, [], rfl, hk w.heap [] (by simp) ⟨rfl, fun _ _ => rfl⟩ ?_⟩
    · simp [Builtin.clear_, run_und ht]
    · rw [hg]; simp
  | succ n =>
    have hst := run_storeCells_at P g o e' (Builtin.zeroCells z.cells (n + 1)).toList 0 cur w hg (by rw [hlen]; omega) hone
    simp only [Nat.add_zero] at hst
    refine ⟨.tuple #[], w.setRow g (cur.toList.take o ++ (Builtin.zeroCells z.cells (n + 1)).toList ++ cur.toList.drop (o + (Builtin.zeroCells z.cells (n + 1)).toList.length)).toArray, ?_, ⟨rfl, rfl, rfl⟩, [], rfl,
      hk _ (Builtin.zeroCells z.cells (n + 1)).toList hlen ⟨by simp [World.setRow], fun k hk => setRow_other w g k _ hk⟩ ?_⟩
    · simp [Builtin.clear_, run_und ht, zeroValue, run_info hi, hz, hst]
    · rw [hlen]; exact setRow_heap w g cur _ e' _ hg
end Go.Dn
