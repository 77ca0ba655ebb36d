/- Pairs: a pair of one's own; where a key's pair stands. -/
import Derived.Test.YtemelcaoepaoiaaDnPln
namespace Go.Dn.W
open Go Go.Dn Go.Proofs

theorem und_pair' : ∃ d, PG.underlying ty_api_Pair = some d := und_pair

section
variable {h : Mem}

theorem one_pcells (k : ByteArray) (v : Sl) : ∀ u ∈ pcells k v, u.oneCell' = true := by
  intro u hu
  simp only [pcells, List.mem_cons, List.not_mem_nil, or_false] at hu
  rcases hu with rfl | rfl <;> rfl

/-- a pair's variable is written -/
theorem St.pair {b : Nat} {k k0 : ByteArray} {v v0 : Sl} {K : Mem → Prop} (hr : h[b]? = some (.cells #[.string k0, sval v0] ty_api_Pair (0, 0)))
    (hk : ∀ h', Upd b h h' → h'[b]? = some (.cells #[.string k, sval v] ty_api_Pair (0, 0)) → K h') : St PG ty_api_Pair ⟨b, 0, none⟩ (.agg #[.string k, sval v]) h K := by
  obtain ⟨d, hd⟩ := und_pair
  exact St.row hd (vs := pcells k v) rfl sz_pair (one_pcells k v) hr (Nat.le_refl 2) fun h' u r => hk h' u r

theorem ct_own {k : ByteArray} {s : Sl} {l : List UInt8} {Q : ByteArray → Sl → Mem → Prop} (b : BytesSl h s l) (hl : l.length ≤ 140737488355328) (q : ∀ s' h', Ext h.size h h' → OwnB h' h.size ty_uint8 s' l → Q k s' h') :
    CallF PG fn_plain_own [.agg #[.string k, sval s]] (.one (.agg [.str, .sl])) h Q := by
  refine call_plain_own (New.go fun h1 _ x1 z1 r1 => New.go fun h2 _ x2 z2 r2 => ?_)
  have r1' : h2[h.size]? = _ := (x2.block _ (by omega)).trans r1
  have x : Ext h.size h h2 := x1.trans (x2.less x1.size)
  refine Ld.bytes (v := s) (by rw [add_off]; exact row_cell r1' rfl) (ct_Clone (b.ext x) hl fun s' h3 x3 o => ?_)
  have z3 := x3.size
  have r13 : h3[h.size]? = some (.cells #[.string k, sval s] ty_api_Pair (0, 0)) := (x3.block _ (by omega)).trans r1'
  have r23 : h3[h1.size]? = some (.cells #[.string (ByteArray.mk #[]), sval ⟨none, 0, 0⟩] ty_api_Pair (0, 0)) := (x3.block _ (by omega)).trans r2
  rw [show (⟨h.size, 0, none⟩ : Addr).add 1 = ⟨h.size, 1, none⟩ from add_off _ _ _]
  refine St.row und_bytes (vs := [sval s']) rfl sz_bytes (by intro u hu; simp only [List.mem_cons, List.not_mem_nil, or_false] at hu; subst hu; rfl) r13 (Nat.le_refl 2) fun h4 u4 r4 => ?_
  have r4 : h4[h.size]? = some (.cells #[.string k, sval s'] ty_api_Pair (0, 0)) := r4
  have r24 : h4[h1.size]? = some (.cells #[.string (ByteArray.mk #[]), sval ⟨none, 0, 0⟩] ty_api_Pair (0, 0)) := (u4.block _ (by omega)).trans r23
  refine Ld.pair (Cells.whole r4) (St.pair r24 fun h5 u5 r5 => Ld.pair (Cells.whole r5) ?_)
  have xx : Ext h.size h h5 := x.trans ((x3.less x.size).trans ((u4.ext (Nat.le_refl _)).trans (u5.ext x1.size)))
  refine q s' h5 xx ((Owns.kept o fun a ha => ?_).base x.size)
  have hb := (o.blk ha).1
  rw [u5.block _ (by omega), u4.block _ (by omega)]

/-! ### the search -/

theorem compareBytes_eq : ∀ a b : List UInt8, Lib.compareBytes a b = if Op.bytesLess a b = true then -1 else if a = b then 0 else 1
  | [], [] => rfl
  | [], _ :: _ => rfl
  | _ :: _, [] => rfl
  | x :: a, y :: b => by
    rw [Lib.compareBytes, compareBytes_eq a b, bl_cons]
    by_cases h1 : x < y
    · simp [h1]
    · by_cases h2 : y < x
      · have hne : x ≠ y := by rintro rfl; exact h1 h2
        simp [h1, h2, hne]
      · have : x = y := Classical.byContradiction fun hne => (UInt8.lt_or_lt_of_ne hne).elim h1 h2
        subst this
        simp [h1]

def cmp3 (a b : ByteArray) : Int := if sLt a b = true then -1 else if a = b then 0 else 1
theorem cmp3_neg (a b : ByteArray) : decide (cmp3 a b < 0) = sLt a b := by
  unfold cmp3
  cases sLt a b
  · simp only [Bool.false_eq_true, if_false]
    split <;> rfl
  · rfl
theorem cmp3_zero (a b : ByteArray) : (cmp3 a b == 0) = decide (a = b) := by
  unfold cmp3
  by_cases h : a = b
  · subst h; rw [sLt_irrefl]; simp
  · simp only [h, if_false, decide_false]
    split <;> rfl

theorem ct_Compare {a b : ByteArray} {Q : Int → Mem → Prop} (q : Q (cmp3 a b) h) : CallF PG fn_strings_Compare [.string a, .string b] (.one (.leaf (.int .i64))) h Q := by
  refine call_strings_Compare (call_internal_bytealg_CompareString ?_)
  refine callF_row (fn := Go.Proofs.Try.f153) (e := Extern.BytealgCompare.compare) (by kernel_rfl) (by kernel_rfl) (by kernel_rfl) (by kernel_rfl) (by kernel_rfl) ?_
  intro w hw
  subst hw
  refine ⟨_, w, Lib.run_compareString a b w, Same.refl _, [_], rfl, _, .int _ _, ?_⟩
  have : Lib.compareBytes a.data.toList b.data.toList = cmp3 a b := by
    rw [compareBytes_eq, ← toList_data, ← toList_data]
    unfold cmp3 sLt
    by_cases e : a = b
    · subst e; simp
    · have : a.toList ≠ b.toList := fun h' => e (toList_inj h')
      simp [e, this]
  rw [this]; exact q

theorem ct_place_1 {k key : ByteArray} {v : Sl} {Q : Int → Mem → Prop} (q : ∀ h', Ext h.size h h' → Q (cmp3 k key) h') : CallF PG fn_plain_place_1 [.agg #[.string k, sval v], .string key] (.one (.leaf (.int .i64))) h Q := by
  refine call_plain_place_1 (New.go fun h1 _ x1 z1 r1 => Ld.key (row_cell r1 rfl) (ct_Compare (q _ x1)))

theorem mid_eq {i j : Nat} (hij : i + j ≤ 281474976710656) : IntKind.i64.wrap ((IntKind.u64.wrap (IntKind.i64.wrap ((i : Int) + (j : Int)))).fdiv (Int.ofNat 2)) = (((i + j) / 2 : Nat) : Int) := by
  have e1 : IntKind.i64.wrap ((i : Int) + (j : Int)) = ((i + j : Nat) : Int) := by rw [i64_eq (by omega) (by omega)]; omega
  have e2 : IntKind.u64.wrap ((i + j : Nat) : Int) = ((i + j : Nat) : Int) := by
    unfold IntKind.wrap
    have hb : IntKind.u64.bits = 64 := rfl
    have hs : IntKind.u64.signed = false := rfl
    simp only [hb, hs, Bool.false_and, Bool.false_eq_true, if_false]
    omega
  rw [e1, e2]
  have e3 : (((i + j : Nat) : Int)).fdiv (Int.ofNat 2) = (((i + j) / 2 : Nat) : Int) := by
    rw [Int.fdiv_eq_ediv_of_nonneg _ (by decide)]
    rfl
  rw [e3, i64_eq (by omega) (by omega)]

/-- so many of the keys are below -/
structure Place (l : List Pr) (key : ByteArray) (n : Nat) : Prop where
  le : n ≤ l.length
  below : ∀ (i : Nat) (p : Pr), i < n → l[i]? = some p → sLt p.key key = true
  above : ∀ (i : Nat) (p : Pr), n ≤ i → l[i]? = some p → sLt p.key key = false

/-- rising keys -/
theorem Right.rising {l : List Pr} (r : Right l) : ∀ (d i : Nat) (p q : Pr), l[i]? = some p → l[i + d + 1]? = some q → sLt p.key q.key = true
  | 0, i, p, q, hp, hq => (r (i + 0 + 1) q (List.getElem?_eq_some_iff.1 hq).1 hq).2 i p rfl hp
  | d + 1, i, p, q, hp, hq => by
    have hlt := (List.getElem?_eq_some_iff.1 hq).1
    obtain ⟨m, hm⟩ : ∃ m, l[i + d + 1]? = some m := ⟨_, List.getElem?_eq_getElem (by omega)⟩
    exact sLt_trans (r.rising d i p m hp hm) ((r (i + (d + 1) + 1) q hlt hq).2 (i + d + 1) m (by omega) hm)
theorem Right.lt {l : List Pr} (r : Right l) {i j : Nat} {p q : Pr} (hij : i < j) (hp : l[i]? = some p) (hq : l[j]? = some q) : sLt p.key q.key = true := by
  obtain ⟨d, rfl⟩ : ∃ d, j = i + d + 1 := ⟨j - i - 1, by omega⟩
  exact r.rising d i p q hp hq

theorem ct_place {s : Sl} {l : List Pr} {key : ByteArray} {Q : Int → Bool → Mem → Prop} (a : PairsAt h s l) (r : Right l) (hl : l.length ≤ 140737488355328)
    (q : ∀ (n : Nat) (b : Bool) h', Ext h.size h h' → Place l key n → (b = true ↔ ∃ p, l[n]? = some p ∧ p.key = key) → Q (n : Int) b h') :
    CallF PG fn_plain_place [sval s, .string key] (.tup [.leaf (.int .i64), .leaf .bool]) h Q := by
  refine call_plain_place (call_slices_BinarySearchFunc_api_Pair_api_Pair_string_ ?_)
  refine ⟨fun n m h' => ∃ i j : Nat, n = (i : Int) ∧ m = (j : Int) ∧ i ≤ j ∧ j ≤ l.length ∧ Ext h.size h h' ∧ (∀ (k : Nat) (p : Pr), k < i → l[k]? = some p → sLt p.key key = true) ∧ (∀ (k : Nat) (p : Pr), j ≤ k → l[k]? = some p → sLt p.key key = false),
    fun n m _ => m.toNat - n.toNat, ⟨0, l.length, rfl, by rw [a.len], Nat.zero_le _, Nat.le_refl _, Ext.refl _ _, fun k p hk => by omega, fun k p hk hp => by have := (List.getElem?_eq_some_iff.1 hp).1; omega⟩, ?_⟩
  rintro _ n m h1 ⟨i, j, rfl, rfl, hij, hj, x, hlo, hhi⟩
  refine Br.mk (fun h2 => ?_) fun h2 => ?_
  · simp only [decide_eq_true_eq] at h2
    rw [mid_eq (by omega)]
    have hm1 : i ≤ (i + j) / 2 := by omega
    have hm2 : (i + j) / 2 < j := by omega
    generalize (i + j) / 2 = c at hm1 hm2
    obtain ⟨p, hp⟩ : ∃ p, l[c]? = some p := ⟨_, List.getElem?_eq_getElem (by omega)⟩
    obtain ⟨ad, ha, v, hc, hb⟩ := (a.ext x).at_ c p hp
    refine Idx.mk ha (by rw [a.len]; omega) ?_
    rw [nat_mul]
    refine Ld.pair hc (callV_fn (ct_place_1 fun h3 x3 => ?_))
    have xx := x.trans (x3.less x.size)
    rw [cmp3_neg, wrap_succ (by omega)]
    refine Br.mk (fun h4 => ?_) fun h4 => ?_
    · refine ⟨⟨c + 1, j, rfl, rfl, by omega, hj, xx, fun k q hk hq => ?_, hhi⟩, by simp only [Int.toNat_natCast]; omega⟩
      rcases Nat.lt_or_ge k c with hlt | hge
      · exact sLt_trans (r.lt hlt hq hp) h4
      · have : k = c := by omega
        subst this; rw [hp] at hq; cases hq; exact h4
    · refine ⟨⟨i, c, rfl, rfl, hm1, by omega, xx, hlo, fun k q hk hq => ?_⟩, by simp only [Int.toNat_natCast]; omega⟩
      rcases Nat.lt_or_ge c k with hlt | hge
      · exact sLe_trans h4 (sLt_asymm (r.lt hlt hp hq)) |> fun h' => by
          cases hq' : sLt q.key key with
          | false => rfl
          | true => rw [sLt_trans (r.lt hlt hp hq) hq'] at h4; cases h4
      · have : k = c := by omega
        subst this; rw [hp] at hq; cases hq; exact h4
  · simp only [decide_eq_false_iff_not] at h2
    have hij' : i = j := by omega
    subst hij'
    have pl : Place l key i := ⟨hj, hlo, hhi⟩
    refine Br.mk (fun h3 => ?_) fun h3 => ?_
    · simp only [decide_eq_true_eq] at h3
      rw [a.len] at h3
      obtain ⟨p, hp⟩ : ∃ p, l[i]? = some p := ⟨_, List.getElem?_eq_getElem (by omega)⟩
      obtain ⟨ad, ha, v, hc, hb⟩ := (a.ext x).at_ i p hp
      refine Idx.mk ha (by rw [a.len]; omega) ?_
      rw [nat_mul]
      refine Ld.pair hc (callV_fn (ct_place_1 fun h4 x4 => ?_))
      rw [cmp3_zero]
      refine q i _ _ (x.trans (x4.less x.size)) pl ?_
      rw [decide_eq_true_eq]
      exact ⟨fun e => ⟨p, hp, e⟩, fun ⟨p', hp', e⟩ => by rw [hp] at hp'; cases hp'; exact e⟩
    · simp only [decide_eq_false_iff_not] at h3
      rw [a.len] at h3
      refine q i false _ x pl ⟨fun e => by (cases e), fun ⟨p, hp, _⟩ => ?_⟩
      have := (List.getElem?_eq_some_iff.1 hp).1
      omega
end
end Go.Dn.W
