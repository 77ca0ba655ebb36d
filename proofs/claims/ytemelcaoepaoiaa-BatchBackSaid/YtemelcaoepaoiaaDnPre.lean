/- The end of a prefix: plain law, then the two functions that reckon it. -/
import Derived.Test.YtemelcaoepaoiaaDnKeys
import Derived.Test.YtemelcaoepaoiaaDnMem
namespace Go.Dn.W
open Go Go.Dn Go.Proofs

/-- the bytes that end the texts with a prefix: none, if nothing ends them -/
def pEnd : List UInt8 → List UInt8
  | [] => []
  | x :: l => if pEnd l ≠ [] then x :: pEnd l else if x = 255 then [] else [x + 1]

theorem pEnd_255 : ∀ l : List UInt8, pEnd (l ++ [255]) = pEnd l
  | [] => by simp [pEnd]
  | x :: l => by simp [pEnd, pEnd_255 l]
theorem pEnd_snoc {y : UInt8} (hy : y ≠ 255) : ∀ l : List UInt8, pEnd (l ++ [y]) = l ++ [y + 1]
  | [] => by simp [pEnd, hy]
  | x :: l => by simp [pEnd, pEnd_snoc hy l]

theorem lt_succ_iff {x y : UInt8} (hx : x ≠ 255) : y < x + 1 ↔ y < x ∨ y = x := by
  have hx' : x.toNat ≠ 255 := fun h => hx (UInt8.toNat_inj.1 h)
  have h1 : (x + 1).toNat = x.toNat + 1 := by
    rw [UInt8.toNat_add]
    have := x.toNat_lt
    show (x.toNat + 1) % 256 = _
    omega
  rw [UInt8.lt_iff_toNat_lt, UInt8.lt_iff_toNat_lt, ← UInt8.toNat_inj, h1]
  omega

open Op in
/-- a text lies from the prefix on and before its end just if it has the prefix -/
theorem pEnd_iff : ∀ (p k : List UInt8), (bytesLess k p = false ∧ (pEnd p = [] ∨ bytesLess k (pEnd p) = true)) ↔ k.take p.length = p
  | [], k => by simp [pEnd, bl_nil_right]
  | x :: p, [] => by simp [bl_nil_cons]
  | x :: p, y :: k => by
    have ih := pEnd_iff p k
    have hless : bytesLess (y :: k) (x :: p) = false ↔ ¬ (y < x ∨ (y = x ∧ bytesLess k p = true)) := by
      rw [← bl_cons_iff]; simp
    rw [hless]
    simp only [List.length_cons, List.take_succ_cons, List.cons.injEq]
    rw [← ih]
    by_cases he : pEnd p = []
    · by_cases hx : x = 255
      · subst hx
        have : pEnd (255 :: p) = [] := by simp [pEnd, he]
        rw [this]
        simp only [he, true_or, and_true]
        have hle : ¬ y < 255 ↔ y = 255 := by
          rw [UInt8.lt_iff_toNat_lt, ← UInt8.toNat_inj]
          have := y.toNat_lt
          show ¬ y.toNat < 255 ↔ y.toNat = 255
          omega
        constructor
        · intro h
          have hy := hle.1 fun h' => h (.inl h')
          refine ⟨hy, ?_⟩
          cases hk : bytesLess k p with
          | false => rfl
          | true => exact absurd (.inr ⟨hy, hk⟩) h
        · rintro ⟨rfl, hk⟩ (h | ⟨_, h⟩)
          · exact UInt8.lt_irrefl _ h
          · rw [hk] at h; cases h
      · have : pEnd (x :: p) = [x + 1] := by simp [pEnd, he, hx]
        rw [this]
        simp only [he, true_or, and_true, List.cons_ne_nil, false_or]
        rw [bl_cons_iff, bl_nil_right, lt_succ_iff hx]
        simp only [Bool.false_eq_true, and_false, or_false]
        constructor
        · rintro ⟨h1, h2 | h2⟩
          · exact absurd (.inl h2) h1
          · refine ⟨h2, ?_⟩
            cases hk : bytesLess k p with
            | false => rfl
            | true => exact absurd (.inr ⟨h2, hk⟩) h1
        · rintro ⟨rfl, hk⟩
          refine ⟨?_, .inr rfl⟩
          rintro (h | ⟨_, h⟩)
          · exact UInt8.lt_irrefl _ h
          · rw [hk] at h; cases h
    · have : pEnd (x :: p) = x :: pEnd p := by simp [pEnd, he]
      rw [this]
      simp only [he, false_or, List.cons_ne_nil]
      rw [bl_cons_iff]
      constructor
      · rintro ⟨h1, h2 | ⟨h2, h3⟩⟩
        · exact absurd (.inl h2) h1
        · refine ⟨h2, ?_, h3⟩
          cases hk : bytesLess k p with
          | false => rfl
          | true => exact absurd (.inr ⟨h2, hk⟩) h1
      · rintro ⟨rfl, hk, h3⟩
        refine ⟨?_, .inr ⟨rfl, h3⟩⟩
        rintro (h | ⟨_, h⟩)
        · exact UInt8.lt_irrefl _ h
        · rw [hk] at h; cases h

/-- the end, as a text -/
def pPrefixEnd (p : ByteArray) : ByteArray := ⟨(pEnd p.toList).toArray⟩
theorem toList_end (p : ByteArray) : (pPrefixEnd p).toList = pEnd p.toList := ByteArray.toList_mk _
theorem end_emp (p : ByteArray) : pPrefixEnd p = emp ↔ pEnd p.toList = [] := by
  rw [← toList_end]
  constructor
  · intro h; rw [h]; exact toList_empty
  · intro h; exact toList_inj (h.trans toList_empty.symm)

theorem within_prefix (p key : ByteArray) : pWithin p (pPrefixEnd p) key = decide (key.toList.take p.size = p.toList) := by
  have h := pEnd_iff p.toList key.toList
  rw [length_toList] at h
  unfold pWithin
  have e : sEq (pPrefixEnd p) emp = decide (pEnd p.toList = []) := by
    cases hs : sEq (pPrefixEnd p) emp with
    | true => exact (decide_eq_true ((end_emp p).1 (sEq_iff.1 hs))).symm
    | false => exact (decide_eq_false fun h => sEq_false.1 hs ((end_emp p).2 h)).symm
  rw [e]
  have e2 : sLt key (pPrefixEnd p) = Op.bytesLess key.toList (pEnd p.toList) := by unfold sLt; rw [toList_end]
  rw [e2]
  have e3 : sLt key p = Op.bytesLess key.toList p.toList := rfl
  rw [e3]
  rw [Bool.eq_iff_iff, decide_eq_true_eq, ← h]
  simp

/-! ### the functions -/
section
variable {h : Mem}

theorem take_snoc {l : List UInt8} {n : Nat} {b : UInt8} (hb : l[n]? = some b) : l.take (n + 1) = l.take n ++ [b] := by
  rw [List.take_add_one, hb]; rfl

theorem wrapU8 (x : UInt8) : IntKind.u8.wrap ((x.toNat : Int) + 1) = ((x + 1).toNat : Int) := by
  rw [UInt8.toNat_add]
  simp only [IntKind.wrap]
  have : IntKind.u8.bits = 8 := rfl
  rw [this]
  simp [IntKind.signed]

theorem u8_ne {x : UInt8} : ((x.toNat : Int) == 255) = decide (x = 255) := by
  by_cases h : x = 255
  · subst h; rfl
  · have : x.toNat ≠ 255 := fun h' => h (UInt8.toNat_inj.1 h')
    rw [decide_eq_false h, beq_eq_false_iff_ne]
    omega

theorem ct_ref_Prefix {p : ByteArray} {Q : ByteArray → ByteArray → Mem → Prop} (hp : p.size ≤ 140737488351232) (q : ∀ h', Ext h.size h h' → Q p (pPrefixEnd p) h') :
    CallF PG fn_dunnageref09_Prefix [.string p] (.tup [.leaf .str, .leaf .str]) h Q := by
  refine call_dunnageref09_Prefix ?_
  refine ⟨fun n h' => ∃ m : Nat, n = (m : Int) ∧ m ≤ p.size ∧ pEnd (p.toList.take m) = pEnd p.toList ∧ h' = h, fun n _ => n.toNat, ⟨p.size, rfl, Nat.le_refl _, by rw [← length_toList, List.take_length], rfl⟩, ?_⟩
  rintro _ n h1 ⟨m, rfl, hm, he, e⟩
  rw [e]
  refine Br.mk (fun hpos => ?_) fun hz => ?_
  · simp only [decide_eq_true_eq] at hpos
    obtain ⟨k, rfl⟩ : ∃ k, m = k + 1 := ⟨m - 1, by omega⟩
    have hk : k < p.toList.length := by rw [length_toList]; omega
    have ew : IntKind.i64.wrap (((k + 1 : Nat) : Int) - 1) = (k : Int) := by rw [i64_eq (by omega) (by omega)]; omega
    rw [ew]
    obtain ⟨x, hb⟩ : ∃ x, p.toList[k]? = some x := ⟨_, List.getElem?_eq_getElem hk⟩
    refine IdxS.at hb (Br.mk (fun hne => ?_) fun heq => ?_)
    · have hne : x ≠ 255 := by
        intro h'; rw [h'] at hne; cases hne
      refine CutS.hi (by omega) (IdxS.at hb fun b h2 hn => ?_)
      obtain ⟨rfl, rfl⟩ := hn.eq
      rw [wrapU8]
      refine read_bytes (l := [x + 1]) rfl (fun i b hi => ?_) ?_
      · cases i with
        | zero => cases hi; rw [add_zero, cellAt_row (push_get_size _ _)]; rfl
        | succ i => cases hi
      · refine Chk.mk (ble_of ?_) ?_
        · have h1 : (p.extract 0 k).size ≤ p.size := by rw [ByteArray.size_extract]; omega
          have h2 : (ByteArray.mk [x + 1].toArray).size = 1 := rfl
          omega
        · have : p.extract 0 k ++ ByteArray.mk [x + 1].toArray = pPrefixEnd p := by
            apply toList_inj
            rw [toList_append, toList_end, toList_extract, ← he, take_snoc hb, pEnd_snoc hne, ByteArray.toList_mk]
            simp
          rw [this]
          exact q _ (Ext.push h _ (Nat.le_refl _))
    · have heq : x = 255 := by
        simp only [bne_eq_false_iff_eq] at heq
        apply UInt8.toNat_inj.1
        show _ = 255
        omega
      refine ⟨⟨k, rfl, by omega, ?_, rfl⟩, by simp⟩
      rw [← he, take_snoc hb, heq, pEnd_255]
  · simp only [decide_eq_false_iff_not] at hz
    have : m = 0 := by omega
    subst this
    have : emp = pPrefixEnd p := ((end_emp p).2 (by rw [← he]; rfl)).symm
    show Q p emp h
    rw [this]
    exact q h (Ext.refl _ _)

theorem ct_Prefix {p : ByteArray} {Q : ByteArray → ByteArray → Mem → Prop} (hp : p.size ≤ 140737488351232) (q : ∀ h', Ext h.size h h' → Q p (pPrefixEnd p) h') :
    CallF PG fn_keys_Prefix [.string p] (.tup [.leaf .str, .leaf .str]) h Q := by
  refine call_keys_Prefix (prim_bytes (e := ty_uint8) (by kernel_rfl) (by kernel_rfl) (by kernel_rfl) fun cap o hcap ho => ?_)
  have hrow : (h.push o)[h.size]? = some (.cells (bytesRow p cap) ty_uint8 ((bytesRow p cap).size, (bytesRow p cap).size + 1)) := by rw [push_get_size, ho]
  have hcell : ∀ {i : Nat} {b : UInt8}, p.toList[i]? = some b → cellAt (h.push o) ⟨h.size, i, none⟩ = some (bcell b) := fun hb => by rw [cellAt_row hrow]; exact bytesRow_get p cap hb
  have hext : Ext h.size h (h.push o) := Ext.push h o (Nat.le_refl _)
  refine ⟨fun s h' => ∃ m c : Nat, s = ⟨some ⟨h.size, 0, none⟩, m, c⟩ ∧ m ≤ p.size ∧ m ≤ c ∧ pEnd (p.toList.take m) = pEnd p.toList ∧ h' = h.push o, fun s _ => s.len,
    ⟨p.size, cap, rfl, Nat.le_refl _, hcap, by rw [← length_toList, List.take_length], rfl⟩, ?_⟩
  rintro _ s h1 ⟨m, c, rfl, hm, hmc, he, e⟩
  rw [e]
  have whole : ∀ (H : Mem) (l : List UInt8) (c : Nat), BytesAt H (some ⟨h.size, 0, none⟩) l → ∀ K : ByteArray → Prop, K ⟨l.toArray⟩ → ReadT PG (Conv.bytesToString (.slice (some ⟨h.size, 0, none⟩) l.length c)) (.one (.leaf .str)) H K :=
    fun H l c hb K hk => read_bytes rfl hb hk
  refine Br.mk (fun hpos => ?_) fun hz => ?_
  · simp only [decide_eq_true_eq] at hpos
    obtain ⟨k, rfl⟩ : ∃ k, m = k + 1 := ⟨m - 1, by omega⟩
    have hk : k < p.toList.length := by rw [length_toList]; omega
    have ew : IntKind.i64.wrap (((k + 1 : Nat) : Int) - 1) = (k : Int) := by rw [i64_eq (by omega) (by omega)]; omega
    obtain ⟨x, hb⟩ : ∃ x, p.toList[k]? = some x := ⟨_, List.getElem?_eq_getElem hk⟩
    simp only [ew]
    refine Idx.mk rfl (by omega) ?_
    have ea : (⟨h.size, 0, none⟩ : Addr).add ((k : Int).toNat * 1) = ⟨h.size, k, none⟩ := by rw [add_off]; simp
    rw [ea]
    have hu : PG.underlying ty_uint8 = some (.int .u8) := by kernel_rfl
    have ha : isAggB PG ty_uint8 = false := by kernel_rfl
    refine Ld.cell (l := .int .u8) hu ha (hcell hb) (Br.mk (fun heq => ?_) fun hne => ?_)
    · have heq : x = 255 := by
        simp only [beq_iff_eq] at heq
        apply UInt8.toNat_inj.1
        show _ = 255
        omega
      refine Cut.hi (by omega) ?_
      rw [cutSl_zero]
      refine ⟨⟨k, c, rfl, by omega, by omega, ?_, trivial⟩, by simp⟩
      rw [← he, take_snoc hb, heq, pEnd_255]
    · have hne : x ≠ 255 := by intro h'; rw [h'] at hne; cases hne
      refine Ld.cell (l := .int .u8) hu ha (hcell hb) ?_
      rw [wrapU8]
      have hsz : k < (bytesRow p cap).size := by rw [bytesRow_size p hcap]; omega
      refine St.cell (by kernel_rfl) rfl (by rw [hcell hb]; rfl) ?_ ?_
      · rw [frozenAt_row hrow]
        simp only [Bool.and_eq_false_iff, decide_eq_false_iff_not]
        exact .inl (by omega)
      · have hset := setAt_self (h.push o) h.size k (bcell (x + 1)) hrow
        have := whole (setAt (h.push o) ⟨h.size, k, none⟩ (bcell (x + 1))) (p.toList.take k ++ [x + 1]) c (fun i b hi => ?_) (fun t => Q p t (setAt (h.push o) ⟨h.size, k, none⟩ (bcell (x + 1)))) ?_
        · have hl : (p.toList.take k ++ [x + 1]).length = k + 1 := by simp; omega
          rw [hl] at this
          exact this
        · rw [add_off, Nat.zero_add, cellAt_row hset]
          by_cases hik : i = k
          · subst hik
            have hl : (p.toList.take i).length = i := by rw [List.length_take]; omega
            rw [List.getElem?_append_right (by omega), hl, Nat.sub_self] at hi
            cases hi
            simp [hsz]
          · have hl : (p.toList.take k).length = k := by rw [List.length_take]; omega
            have hi2 : i < k := by
              have := (List.getElem?_eq_some_iff.1 hi).1
              rw [List.length_append, hl] at this
              simp at this; omega
            rw [List.getElem?_append_left (by omega), List.getElem?_take, if_pos hi2] at hi
            rw [Array.getElem?_setIfInBounds_ne (fun e => hik e.symm)]
            exact bytesRow_get p cap hi
        · have : ByteArray.mk (p.toList.take k ++ [x + 1]).toArray = pPrefixEnd p := by
            unfold pPrefixEnd
            rw [← he, take_snoc hb, pEnd_snoc hne]
          rw [this]
          exact q _ (hext.trans (Ext.set _ _ _ (Nat.le_refl _)))
  · simp only [decide_eq_false_iff_not] at hz
    have : m = 0 := by omega
    subst this
    refine whole (h.push o) [] c (fun i b hi => by cases hi) _ ?_
    have : ByteArray.mk ([] : List UInt8).toArray = pPrefixEnd p := ((end_emp p).2 (by rw [← he]; rfl)).symm
    rw [this]
    exact q _ hext

theorem law_KeysPrefix {p key : ByteArray} {Q : Bool → Mem → Prop} (hp : p.size ≤ 140737488351232) (hkey : key.size ≤ 140737488351232) (q : ∀ h', Ext h.size h h' → Q true h') : wp_dunnagelaw09_KeysPrefix p key h Q := by
  refine ct_Prefix hp fun h' hx => ?_
  -- what stands behind both ways
  have tail : ∀ H, Ext h.size h H → Chk (Nat.ble (p.size + key.size) 9223372036854775807)
      (CallF PG fn_keys_Within [.string p, .string (pPrefixEnd p), .string (p ++ key)] (.one (.leaf .bool)) H fun b9 h10 =>
        Br b9 (CallF PG fn_keys_Empty [.string p, .string (pPrefixEnd p)] (.one (.leaf .bool)) h10 fun b11 h12 => Q (!b11) h12) (Q false h10)) := by
    intro H hX
    refine Chk.mk (ble_of (by omega)) (ct_Within (Br.t ?_ (ct_Empty ?_)))
    · rw [within_prefix, decide_eq_true_eq, toList_append, ← length_toList, List.take_left']
      rfl
    · have hw : pWithin p (pPrefixEnd p) p = true := by
        rw [within_prefix, decide_eq_true_eq, ← length_toList, List.take_length]
      have : pEmpty p (pPrefixEnd p) = false := by
        unfold pEmpty
        unfold pWithin at hw
        rw [sLt_irrefl] at hw
        cases h1 : sEq (pPrefixEnd p) emp with
        | true => rfl
        | false => rw [h1] at hw; simp only [Bool.not_false, Bool.true_and, Bool.false_or] at hw; rw [hw]; rfl
      rw [this]; exact q H hX
  refine Br.mk (fun h1 => ?_) fun h1 => ?_
  · simp only [decide_eq_true_eq] at h1
    refine CutS.hi (by omega) (ct_awake (Br.t rfl (ct_Within (Br.t ?_ (tail _ hx)))))
    rw [within_prefix]
    have : sEq (key.extract 0 p.size) p = decide (key.toList.take p.size = p.toList) := by
      unfold sEq
      rw [toList_extract, List.drop_zero, Nat.sub_zero]
      rw [Bool.eq_iff_iff, beq_iff_eq, decide_eq_true_eq]
    rw [this, beq_self_eq_true]
  · simp only [decide_eq_false_iff_not] at h1
    refine ct_awake (Br.t rfl (ct_Within (Br.t ?_ (tail _ hx))))
    rw [within_prefix, beq_iff_eq, decide_eq_false_iff_not]
    intro e
    have := congrArg List.length e
    rw [List.length_take, length_toList, length_toList] at this
    omega

theorem bl_append : ∀ (c a b : List UInt8), Op.bytesLess (c ++ a) (c ++ b) = Op.bytesLess a b
  | [], _, _ => rfl
  | x :: c, a, b => by rw [List.cons_append, List.cons_append, bl_cons, bl_append c a b]; simp

theorem split_at {l : List UInt8} {m : Nat} {x : UInt8} (hx : l[m]? = some x) : l = l.take m ++ x :: l.drop (m + 1) := by
  obtain ⟨hm, rfl⟩ := List.getElem?_eq_some_iff.1 hx
  rw [← List.drop_eq_getElem_cons hm, List.take_append_drop]

theorem ct_ref_Less {a b : ByteArray} {Q : Bool → Mem → Prop} (ha : a.size ≤ 140737488351232) (q : Q (sLt a b) h) : CallF PG fn_dunnageref09_Less [.string a, .string b] (.one (.leaf .bool)) h Q := by
  refine call_dunnageref09_Less ?_
  refine ⟨fun n h' => ∃ m : Nat, n = (m : Int) ∧ m ≤ a.size ∧ m ≤ b.size ∧ a.toList.take m = b.toList.take m ∧ h' = h, fun n _ => a.size - n.toNat, ⟨0, rfl, Nat.zero_le _, Nat.zero_le _, rfl, rfl⟩, ?_⟩
  rintro _ n h1 ⟨m, rfl, hma, hmb, he, e⟩
  rw [e]
  -- one of them is over
  have over : (m = a.size ∨ m = b.size) → sLt a b = decide ((a.size : Int) < (b.size : Int)) := by
    intro ho
    unfold sLt
    have e1 : a.toList = b.toList.take m ++ a.toList.drop m := by rw [← he, List.take_append_drop]
    have e2 : b.toList = b.toList.take m ++ b.toList.drop m := by rw [List.take_append_drop]
    rw [e1, e2, List.take_left' (by rw [List.length_take, length_toList]; omega), bl_append]
    have la : (a.toList.drop m).length = a.size - m := by rw [List.length_drop, length_toList]
    have lb : (b.toList.drop m).length = b.size - m := by rw [List.length_drop, length_toList]
    cases hda : a.toList.drop m with
    | nil =>
      rw [hda] at la
      simp only [List.length_nil] at la
      cases hdb : b.toList.drop m with
      | nil => rw [hdb] at lb; simp only [List.length_nil] at lb; simp [bl_nil_right]; omega
      | cons y t => rw [hdb] at lb; simp only [List.length_cons] at lb; rw [bl_nil_cons]; simp; omega
    | cons x s =>
      rw [hda] at la
      simp only [List.length_cons] at la
      have hb0 : b.toList.drop m = [] := List.eq_nil_of_length_eq_zero (by rw [lb]; omega)
      rw [hb0] at lb ⊢
      simp only [List.length_nil] at lb
      rw [bl_nil_right]; simp; omega
  refine Br.mk (fun h2 => Br.mk (fun h3 => ?_) fun h3 => ?_) fun h2 => ?_
  · simp only [decide_eq_true_eq] at h2 h3
    obtain ⟨x, hx⟩ : ∃ x, a.toList[m]? = some x := ⟨_, List.getElem?_eq_getElem (by rw [length_toList]; omega)⟩
    obtain ⟨y, hy⟩ : ∃ y, b.toList[m]? = some y := ⟨_, List.getElem?_eq_getElem (by rw [length_toList]; omega)⟩
    refine IdxS.at hx (IdxS.at hy (Br.mk (fun hne => IdxS.at hx (IdxS.at hy ?_)) fun heq => ?_))
    · have hne : x ≠ y := by rintro rfl; simp at hne
      have : sLt a b = decide ((x.toNat : Int) < (y.toNat : Int)) := by
        unfold sLt
        rw [split_at hx, split_at hy, he, bl_append, bl_cons]
        have h4 : (x == y) = false := beq_eq_false_iff_ne.2 hne
        rw [h4]
        simp [UInt8.lt_iff_toNat_lt]
      rw [← this]; exact q
    · have heq : x = y := by
        simp only [bne_eq_false_iff_eq] at heq
        exact UInt8.toNat_inj.1 (by omega)
      have ew : IntKind.i64.wrap ((m : Int) + 1) = ((m + 1 : Nat) : Int) := by rw [i64_eq (by omega) (by omega)]; omega
      rw [ew]
      refine ⟨⟨m + 1, rfl, by omega, by omega, ?_, rfl⟩, by simp only [Int.toNat_natCast]; omega⟩
      rw [take_snoc hx, take_snoc hy, he, heq]
  · simp only [decide_eq_false_iff_not] at h3
    rw [← over (.inr (by omega))]; exact q
  · simp only [decide_eq_false_iff_not] at h2
    rw [← over (.inl (by omega))]; exact q

theorem ct_ref_May {a : ByteArray} {Q : Bool → Mem → Prop} (q : Q (pMay a) h) : CallF PG fn_dunnageref09_May [.string a] (.one (.leaf .bool)) h Q := by
  refine call_dunnageref09_May (Br.mk (fun h1 => ?_) fun h1 => ?_)
  all_goals simp only [decide_eq_true_eq, decide_eq_false_iff_not] at h1
  · have : decide ((a.size : Int) ≤ 64) = pMay a := by unfold pMay; simp only [decide_eq_decide]; omega
    rw [this]; exact q
  · have : false = pMay a := by unfold pMay; symm; rw [decide_eq_false_iff_not]; omega
    rw [this]; exact q
theorem ct_ref_Next {a : ByteArray} {Q : ByteArray → Mem → Prop} (hs : a.size ≤ 140737488351232) (q : Q (pNext a) h) : CallF PG fn_dunnageref09_Next [.string a] (.one (.leaf .str)) h Q :=
  call_dunnageref09_Next (Chk.mk (ble_of (by show a.size + 1 ≤ _; omega)) q)
theorem ct_ref_Within {lo hi key : ByteArray} {Q : Bool → Mem → Prop} (hk : key.size ≤ 140737488351232) (q : Q (pWithin lo hi key) h) : CallF PG fn_dunnageref09_Within [.string lo, .string hi, .string key] (.one (.leaf .bool)) h Q := by
  refine call_dunnageref09_Within (ct_ref_Less hk ?_)
  unfold pWithin at q
  cases h1 : sLt key lo <;> rw [h1] at q
  · cases h2 : sEq hi emp <;> rw [h2] at q
    · exact Br.t rfl (Br.f rfl (ct_ref_Less hk q))
    · exact Br.t rfl (Br.t rfl q)
  · exact Br.f rfl q
theorem ct_ref_Empty {lo hi : ByteArray} {Q : Bool → Mem → Prop} (hk : lo.size ≤ 140737488351232) (q : Q (pEmpty lo hi) h) : CallF PG fn_dunnageref09_Empty [.string lo, .string hi] (.one (.leaf .bool)) h Q := by
  refine call_dunnageref09_Empty ?_
  unfold pEmpty at q
  cases h1 : sEq hi emp <;> rw [h1] at q
  · exact Br.t (by rw [h1]; rfl) (ct_ref_Less hk q)
  · exact Br.f (by rw [h1]; rfl) q
theorem ct_ref_Meet {alo ahi blo bhi : ByteArray} {Q : ByteArray → ByteArray → Bool → Mem → Prop} (h1 : alo.size ≤ 140737488351232) (h3 : blo.size ≤ 140737488351232) (h4 : bhi.size ≤ 140737488351232)
    (q : Q (pMeet alo ahi blo bhi).1 (pMeet alo ahi blo bhi).2.1 (pMeet alo ahi blo bhi).2.2 h) :
    CallF PG fn_dunnageref09_Meet [.string alo, .string ahi, .string blo, .string bhi] (.tup [.leaf .str, .leaf .str, .leaf .bool]) h Q := by
  refine call_dunnageref09_Meet (ct_ref_Less h1 ?_)
  have fin : ∀ lo hi : ByteArray, lo.size ≤ 140737488351232 → lo = pMax alo blo → hi = pMinHi ahi bhi → CallF PG fn_dunnageref09_Empty [.string lo, .string hi] (.one (.leaf .bool)) h fun (b7 : Bool) (h8 : Mem) =>
      Br b7 (Q emp emp false h8) (Q lo hi true h8) := by
    intro lo hi hl e1 e2
    subst e1 e2
    refine ct_ref_Empty hl ?_
    unfold pMeet at q
    cases h1 : pEmpty (pMax alo blo) (pMinHi ahi bhi) <;> rw [h1] at q <;> exact q
  have his : ∀ lo : ByteArray, lo.size ≤ 140737488351232 → lo = pMax alo blo →
      Br (sEq ahi emp) (CallF PG fn_dunnageref09_Empty [.string lo, .string bhi] (.one (.leaf .bool)) h fun (b7 : Bool) (h8 : Mem) => Br b7 (Q emp emp false h8) (Q lo bhi true h8))
        (Br (!sEq bhi emp) (CallF PG fn_dunnageref09_Less [.string bhi, .string ahi] (.one (.leaf .bool)) h fun (b5 : Bool) (h6 : Mem) =>
            Br b5 (CallF PG fn_dunnageref09_Empty [.string lo, .string bhi] (.one (.leaf .bool)) h6 fun (b7 : Bool) (h8 : Mem) => Br b7 (Q emp emp false h8) (Q lo bhi true h8))
              (CallF PG fn_dunnageref09_Empty [.string lo, .string ahi] (.one (.leaf .bool)) h6 fun (b7 : Bool) (h8 : Mem) => Br b7 (Q emp emp false h8) (Q lo ahi true h8)))
          (CallF PG fn_dunnageref09_Empty [.string lo, .string ahi] (.one (.leaf .bool)) h fun (b7 : Bool) (h8 : Mem) => Br b7 (Q emp emp false h8) (Q lo ahi true h8))) := by
    intro lo hl e
    refine Br.mk (fun k1 => fin _ _ hl e ?_) fun k1 => Br.mk (fun k2 => ct_ref_Less h4 (Br.mk (fun k3 => fin _ _ hl e ?_) fun k3 => fin _ _ hl e ?_)) fun k2 => fin _ _ hl e ?_
    · unfold pMinHi; rw [k1]; rfl
    · unfold pMinHi; rw [k1, k2, k3]; rfl
    · unfold pMinHi; rw [k1, k2, k3]; rfl
    · unfold pMinHi; rw [k1, k2]; rfl
  refine Br.mk (fun k1 => his blo h3 ?_) fun k1 => his alo h1 ?_
  · unfold pMax; rw [k1]; rfl
  · unfold pMax; rw [k1]; rfl

theorem law_KeysTell {a b c d : ByteArray} {Q : Bool → Mem → Prop} (ha : a.size ≤ 140737488351232) (hc : c.size ≤ 140737488351232) (hd : d.size ≤ 140737488351232)
    (q : ∀ h', Ext h.size h h' → Q true h') : wp_dunnagelaw09_KeysTell a b c d h Q := by
  refine ct_Meet (ct_ref_Meet ha hc hd (ct_Prefix ha fun h1 x1 => ct_ref_Prefix ha fun h2 x2 => ct_awake ?_))
  have q := q h2 (x1.trans (x2.less x1.size))
  refine ⟨fun b h' => b = true ∧ h' = h2, ?_, Br.t rfl (ct_May (ct_ref_May ⟨by simp, rfl⟩))⟩
  rintro _ b1 h3 ⟨rfl, e⟩
  rw [e]
  refine ⟨fun b h' => b = true ∧ h' = h2, ?_, Br.t rfl (ct_Less (ct_ref_Less ha ⟨by simp, rfl⟩))⟩
  rintro _ b1 h3 ⟨rfl, e⟩
  rw [e]
  refine ⟨fun b h' => b = true ∧ h' = h2, ?_, Br.t rfl (ct_Within (ct_ref_Within hc ⟨by simp, rfl⟩))⟩
  rintro _ b1 h3 ⟨rfl, e⟩
  rw [e]
  refine ⟨fun b h' => b = true ∧ h' = h2, ?_, Br.t rfl (ct_Empty (ct_ref_Empty ha ⟨by simp, rfl⟩))⟩
  rintro _ b1 h3 ⟨rfl, e⟩
  rw [e]
  refine Br.t rfl (ct_Next ha (ct_ref_Next ha (Br.t (sEq_self _) (Br.t (sEq_self _) (Br.t (sEq_self _) (Br.t (by simp) (Br.t (sEq_self _) ?_)))))))
  rw [sEq_self]; exact q
end
end Go.Dn.W
