/- A pair taken out of a list of pairs. -/
import Derived.Test.YtemelcaoepaoiaaDnOps
import Derived.Test.YtemelcaoepaoiaaDnClr
namespace Go.Dn.W
open Go Go.Dn Go.Proofs

theorem infoZ_pair : infoZ PG ty_api_Pair = true := by kernel_rfl
theorem Owns.le {h : Mem} {B : Nat} {e : TypeId} {size : Nat} {s : Sl} {xs : List Value} (o : Owns h B e size s xs) : s.len ≤ s.cap := by
  rcases o.2 with ⟨hv, h0⟩ | ⟨g, cap, cur, hv, hB, hg, hc, _⟩
  · omega
  · simp only [Value.slice.injEq] at hv; rw [hv.2.2]; exact hc

theorem hcells_take : ∀ (hl : List (ByteArray × Sl)) (n : Nat), (hcells hl).take (n * 2) = hcells (hl.take n)
  | [], n => by simp [hcells]
  | q :: hl, 0 => by simp [hcells]
  | q :: hl, n + 1 => by rw [show (n + 1) * 2 = n * 2 + 1 + 1 by omega, hcells_cons, List.take_succ_cons, List.take_succ_cons, hcells_take hl n, List.take_succ_cons, hcells_cons]
theorem hcells_drop : ∀ (hl : List (ByteArray × Sl)) (n : Nat), (hcells hl).drop (n * 2) = hcells (hl.drop n)
  | [], n => by simp [hcells]
  | q :: hl, 0 => by simp [hcells]
  | q :: hl, n + 1 => by rw [show (n + 1) * 2 = n * 2 + 1 + 1 by omega, hcells_cons, List.drop_succ_cons, List.drop_succ_cons, hcells_drop hl n, List.drop_succ_cons]
theorem one_hcells (hl : List (ByteArray × Sl)) : ∀ u ∈ hcells hl, u.oneCell' = true := by
  intro u hu
  obtain ⟨q, _, hq⟩ := List.mem_flatMap.1 hu
  exact one_pcells _ _ u hq

theorem Heads.sub {h : Mem} {B : Nat} {hl : List (ByteArray × Sl)} {l : List Pr} (x : Heads h B hl l) (i j : Nat) (hi : i ≤ l.length) : Heads h B (hl.take i ++ hl.drop j) (l.take i ++ l.drop j) := by
  have hli : i ≤ hl.length := by rw [x.len]; exact hi
  refine ⟨by simp [x.len], fun k q p hq hp => ?_⟩
  rcases Nat.lt_or_ge k i with hk | hk
  · rw [List.getElem?_append_left (by rw [List.length_take]; omega), List.getElem?_take, if_pos hk] at hq hp
    exact x.is k q p hq hp
  · rw [List.getElem?_append_right (by rw [List.length_take]; omega), List.getElem?_drop, List.length_take] at hq hp
    rw [Nat.min_eq_left hli] at hq
    rw [Nat.min_eq_left hi] at hp
    exact x.is _ q p hq hp

theorem Heads.upd {h h' : Mem} {B g : Nat} {hl : List (ByteArray × Sl)} {l : List Pr} (x : Heads h B hl l) {c : Array Value} {fz : Nat × Nat} (hg : h[g]? = some (.cells c ty_api_Pair fz)) (u : Upd g h h') : Heads h' B hl l :=
  ⟨x.len, fun i q p hq hp => let ⟨h1, h2⟩ := x.is i q p hq hp; ⟨h1, Owns.kept h2 fun a ha => u.block _ fun e => by
    obtain ⟨_, _, c', hc'⟩ := Owns.blk h2 ha
    rw [e, hg] at hc'
    cases hc'⟩⟩

section
variable {h : Mem}
theorem ct_Delete {B : Nat} {s : Sl} {l : List Pr} {i : Nat} {Q : Sl → Mem → Prop} (hB : B ≤ h.size) (x : OwnP h B s l) (hi : i < l.length)
    (q : ∀ s' h', OwnP h' B s' (l.take i ++ l.drop (i + 1)) → Ext B h h' → Q s' h') : CallF PG fn_slices_Delete_api_Pair_api_Pair_ [sval s, .int .i64 (i : Int), .int .i64 ((i + 1 : Nat) : Int)] (.one (.leaf .sl)) h Q := by
  have hlen := x.len
  obtain ⟨hl', o, hh⟩ := x
  have hle := Owns.le o
  obtain ⟨a, ha⟩ := o.some (by omega)
  obtain ⟨g, rfl⟩ := o.addr ha
  refine call_slices_Delete_api_Pair_api_Pair_ ?_
  refine ⟨i, i + 1, s.len, ⟨rfl, hle⟩, ⟨rfl, by omega⟩, ⟨rfl, by omega⟩, Br.f (by simp; omega) (Cut.hi (by omega) ?_)⟩
  rw [cutSl_zero]
  refine Cut.lo (by omega) ?_
  have hown := o.prefix (n := i) (by omega)
  rw [hcells_take] at hown
  have hnl : hl'.length = l.length := hh.len
  have key := append_room (P := PG) (t := ty_sl_api_Pair) (ty := ty_sl_api_Pair) (v := cutSl 2 s.a (i + 1) s.len s.cap) (news := hcells (hl'.drop (i + 1))) und_pairs info_pair hown
    (by rw [hcells_length, List.length_drop, hnl]; show _ = (s.len - (i + 1)) * 2; rw [hlen])
    (fun b hb => by
      unfold cutSl at hb
      by_cases hc : s.cap = i + 1
      · have : hl'.drop (i + 1) = [] := List.drop_eq_nil_of_le (by omega)
        rw [this]
        intro j v hv
        simp [hcells] at hv
      · simp only [hc, if_false, ha, Option.map_some, Option.some.injEq] at hb
        subst hb
        intro j v hv
        rw [add_off, add_off, Nat.zero_add]
        have := o.cells ha ((i + 1) * 2 + j) v (by rw [← hcells_drop, List.getElem?_drop] at hv; exact hv)
        rw [add_off, Nat.zero_add] at this
        exact this)
    (fun hn => by unfold cutSl at hn; simp only [ha] at hn; split at hn <;> cases hn)
    (one_hcells _) (by show i + (s.len - (i + 1)) ≤ s.cap; omega) (by rw [show (⟨s.a, i, s.cap⟩ : Sl).a = s.a from rfl, ha]; rfl)
    (K := fun s4 h5 => Cut 2 s4.a s4.len s4.cap (some (↑s4.len : Int)) (some (↑s.len : Int)) none fun (s6 : Sl) =>
              PrimT PG (Builtin.clear_ #[ty_sl_api_Pair] ty_0 #[Value.slice s6.a s6.len s6.cap]) (Kd.tup []) h5 fun (h7 : Mem) => Q (Sl.mk s4.a s4.len s4.cap) h7)
    fun h5 o5 g5 z5 => ?_
  · exact key
  · have hcut : (cutSl 2 s.a (i + 1) s.len s.cap).len = s.len - (i + 1) := rfl
    simp only [hcut] at o5 ⊢
    generalize hn : i + (s.len - (i + 1)) = n at o5 ⊢
    have hnl' : n + 1 = s.len := by omega
    refine Cut.both (by omega) hle ?_
    have hne : s.cap ≠ n := by omega
    have hc6 : cutSl 2 s.a n s.len s.cap = ⟨some ⟨g, n * 2, none⟩, 1, s.cap - n⟩ := by
      unfold cutSl
      rw [if_neg hne, ha, Option.map_some, add_off, Nat.zero_add]
      congr 1
      omega
    rw [hc6]
    rcases o5.2 with ⟨hv, _⟩ | ⟨g', cap, cur, hv, hBg, hg, hc, hm, hcs, htk⟩
    · simp only [Value.slice.injEq] at hv; rw [ha] at hv; cases hv.1
    · simp only [Value.slice.injEq] at hv
      obtain ⟨hva, _, hvc⟩ := hv
      rw [ha] at hva
      cases hva
      have hg : h5[g]? = some (.cells cur ty_api_Pair (0, 0)) := hg
      refine clear_row (P := PG) und_pairs info_pair infoZ_pair hg (by show n * 2 + 1 * 2 ≤ cur.size; rw [hcs, ← hvc]; show n * 2 + 1 * 2 ≤ s.cap * 2; omega) fun h7 zs hz u7 r7 => ?_
      refine q ⟨s.a, n, s.cap⟩ h7 ⟨hl'.take i ++ hl'.drop (i + 1), ⟨?_, .inr ⟨g, cap, _, ?_, hBg, r7, hc, hm, ?_, ?_⟩⟩, ?_⟩ ?_
      · rw [hcells_append]; exact o5.1
      · rw [ha, hvc]
      · simp only [List.size_toArray, List.length_append, List.length_take, List.length_drop, Array.length_toList, hz]
        omega
      · have hlen2 : (cur.toList.take (n * 2)).length = n * 2 := by rw [List.length_take, Array.length_toList, hcs, ← hvc]; omega
        show ((cur.toList.take (n * 2) ++ zs ++ cur.toList.drop (n * 2 + 1 * 2)).take (n * 2)) = _
        rw [List.append_assoc, List.take_left' hlen2, hcells_append]
        exact htk
      · exact ((hh.sub i (i + 1) (by omega)).grown hown g5).upd hg u7
      · exact (hown.grownExt hB g5).trans (u7.ext hBg)
end
end Go.Dn.W
