/- Keys: what the functions of the key layer answer. -/
import Derived.Test.YtemelcaoepaoiaaDnW09
import Derived.Test.YtemelcaoepaoiaaDnStr
namespace Go.Dn.W
open Go Go.Dn Go.Proofs

theorem zero_list : (ByteArray.mk #[0]).toList = [0] := ByteArray.toList_mk [0]
abbrev emp : ByteArray := ByteArray.mk #[]

def pWithin (lo hi key : ByteArray) : Bool := !sLt key lo && (sEq hi emp || sLt key hi)
def pEmpty (lo hi : ByteArray) : Bool := !sEq hi emp && !sLt lo hi
def pMax (a b : ByteArray) : ByteArray := bif sLt a b then b else a
def pMinHi (a b : ByteArray) : ByteArray := bif sEq a emp then b else bif !sEq b emp && sLt b a then b else a
def pMeet (alo ahi blo bhi : ByteArray) : ByteArray × ByteArray × Bool :=
  bif pEmpty (pMax alo blo) (pMinHi ahi bhi) then (emp, emp, false) else (pMax alo blo, pMinHi ahi bhi, true)
def pNext (a : ByteArray) : ByteArray := a ++ ByteArray.mk #[0]
def pMay (a : ByteArray) : Bool := decide (1 ≤ a.size ∧ a.size ≤ 64)

section
variable {h : Mem}

theorem ct_Less {a b : ByteArray} {Q : Bool → Mem → Prop} (q : Q (sLt a b) h) : CallF PG fn_keys_Less [.string a, .string b] (.one (.leaf .bool)) h Q := call_keys_Less q

theorem ct_May {a : ByteArray} {Q : Bool → Mem → Prop} (q : Q (pMay a) h) : CallF PG fn_keys_May [.string a] (.one (.leaf .bool)) h Q := by
  refine call_keys_May (Br.mk (fun h1 => ?_) fun h1 => ?_)
  all_goals simp only [decide_eq_true_eq, decide_eq_false_iff_not] at h1
  · have : decide ((a.size : Int) ≤ 64) = pMay a := by unfold pMay; simp only [decide_eq_decide]; omega
    rw [this]; exact q
  · have : false = pMay a := by unfold pMay; symm; rw [decide_eq_false_iff_not]; omega
    rw [this]; exact q

theorem ct_Next {a : ByteArray} {Q : ByteArray → Mem → Prop} (hs : a.size ≤ 140737488351232) (q : Q (pNext a) h) : CallF PG fn_keys_Next [.string a] (.one (.leaf .str)) h Q :=
  call_keys_Next (Chk.mk (ble_of (by show a.size + 1 ≤ _; omega)) q)

theorem ct_Within {lo hi key : ByteArray} {Q : Bool → Mem → Prop} (q : Q (pWithin lo hi key) h) : CallF PG fn_keys_Within [.string lo, .string hi, .string key] (.one (.leaf .bool)) h Q := by
  refine call_keys_Within ?_
  unfold wp_keys_Within
  rw [sLt_or]
  unfold pWithin at q
  cases h1 : sLt key lo <;> rw [h1] at q
  · cases h2 : sEq hi emp <;> rw [h2] at q <;> exact q
  · exact q

theorem ct_Empty {lo hi : ByteArray} {Q : Bool → Mem → Prop} (q : Q (pEmpty lo hi) h) : CallF PG fn_keys_Empty [.string lo, .string hi] (.one (.leaf .bool)) h Q := by
  refine call_keys_Empty ?_
  unfold wp_keys_Empty
  rw [sLt_or]
  unfold pEmpty at q
  cases h1 : sEq hi emp <;> rw [h1] at q <;> exact q

theorem max_eq (a b : ByteArray) : (bif !sLt a b then a else b) = pMax a b := by unfold pMax; cases sLt a b <;> rfl

theorem ct_Meet {alo ahi blo bhi : ByteArray} {Q : ByteArray → ByteArray → Bool → Mem → Prop} (q : Q (pMeet alo ahi blo bhi).1 (pMeet alo ahi blo bhi).2.1 (pMeet alo ahi blo bhi).2.2 h) :
    CallF PG fn_keys_Meet [.string alo, .string ahi, .string blo, .string bhi] (.tup [.leaf .str, .leaf .str, .leaf .bool]) h Q := by
  refine call_keys_Meet ?_
  unfold wp_keys_Meet
  have fin : ∀ hi : ByteArray, hi = pMinHi ahi bhi → CallF PG fn_keys_Empty [.string (pMax alo blo), .string hi] (.one (.leaf .bool)) h fun (b7 : Bool) (h8 : Mem) =>
      Br b7 (Q emp emp false h8) (Q (pMax alo blo) hi true h8) := by
    rintro _ rfl
    refine ct_Empty ?_
    unfold pMeet at q
    cases h1 : pEmpty (pMax alo blo) (pMinHi ahi bhi) <;> rw [h1] at q <;> exact q
  rw [max_eq]
  refine Br.mk (fun h1 => fin _ ?_) fun h1 => Br.mk (fun h2 => fin _ ?_) fun h2 => fin _ ?_
  · have e := sEq_iff.1 h1
    subst e
    rw [max_eq]
    unfold pMax pMinHi
    rw [sEq_self]
    simp only [cond_true]
    cases h3 : sLt emp bhi with
    | true => rfl
    | false =>
      by_cases hb : bhi = emp
      · rw [hb]; rfl
      · rw [empty_sLt hb] at h3; cases h3
  · have e := sEq_iff.1 h2
    subst e
    rw [max_eq]
    unfold pMax pMinHi
    rw [h1, sLt_empty, h2]
    rfl
  · unfold pMinHi
    rw [h1, h2, sLt_or]
    cases sLt bhi ahi <;> rfl

theorem ct_awake {Q : Bool → Mem → Prop} (q : Q true h) : CallF PG fn_dunnagelaw09_awake [] (.one (.leaf .bool)) h Q := by
  refine call_dunnagelaw09_awake (ct_May (Br.t (by decide) (ct_Less (Br.t ?_ (ct_Within (Br.t ?_ (ct_Next ?_ ?_)))))))
  · unfold sLt; rw [show (ByteArray.mk #[97]).toList = [97] from ByteArray.toList_mk [97], show (ByteArray.mk #[98]).toList = [98] from ByteArray.toList_mk [98]]; decide
  · unfold pWithin sLt sEq; rw [show (ByteArray.mk #[97]).toList = [97] from ByteArray.toList_mk [97], show (ByteArray.mk #[98]).toList = [98] from ByteArray.toList_mk [98], show (ByteArray.mk #[99]).toList = [99] from ByteArray.toList_mk [99], toList_empty]; decide
  · decide
  · have : sEq (pNext (ByteArray.mk #[97])) (ByteArray.mk #[97, 0]) = true := by
      rw [sEq_iff]; rfl
    rw [this]; exact q
end

/-! ### the laws -/
section
variable {h : Mem} {Q : Bool → Mem → Prop}

theorem law_KeysNext {a b : ByteArray} (ha : a.size ≤ 140737488351232) (q : Q true h) : wp_dunnagelaw09_KeysNext a b h Q := by
  have hn : sLt a (pNext a) = true := by unfold sLt pNext; rw [toList_append, zero_list]; exact bl_snoc _
  have hn2 : (sLt a b == !sLt b (pNext a)) = true := by
    unfold sLt pNext
    rw [toList_append, zero_list, beq_iff_eq]
    exact bl_next _ _
  refine (ct_Next ha (ct_awake (Br.t rfl (ct_Less (Br.t hn (ct_Less (ct_Less ?_)))))))
  rw [hn2]; exact q

theorem law_KeysOrder {a b c : ByteArray} (q : Q true h) : wp_dunnagelaw09_KeysOrder a b c h Q := by
  let x : Int := if sLt a b then 1 else 0
  let y : Int := if sLt b a then 1 else 0
  refine ⟨fun n h' => n = x ∧ h' = h, ?_, ?_⟩
  · rintro _ n h1 ⟨rfl, e⟩
    rw [e]
    refine ⟨fun n h' => n = x + y ∧ h' = h, ?_, ?_⟩
    · rintro _ n h2 ⟨rfl, e⟩
      rw [e]
      refine ⟨fun n h' => n = 1 ∧ h' = h, ?_, ?_⟩
      · rintro _ n h3 ⟨rfl, e⟩
        rw [e]
        refine ct_awake (Br.t rfl (Br.t rfl (ct_Less (Br.t (by rw [sLt_irrefl]; rfl) (ct_Less ?_)))))
        refine Br.mk (fun _ => q) fun h1 => ct_Less (Br.mk (fun _ => q) fun h2 => ct_Less ?_)
        simp only [Bool.not_eq_false'] at h1 h2
        rw [sLt_trans h1 h2]; exact q
      · have hxy : (sLt a b = true ∧ sLt b a = false ∧ sEq a b = false) ∨ (sLt a b = false ∧ sLt b a = true ∧ sEq a b = false) ∨ (sLt a b = false ∧ sLt b a = false ∧ sEq a b = true) := by
          cases h1 : sLt a b with
          | true => exact .inl ⟨rfl, sLt_asymm h1, sEq_false.2 (sLt_ne h1)⟩
          | false =>
            cases h2 : sEq a b with
            | true => rw [sEq_iff.1 h2]; exact .inr (.inr ⟨rfl, sLt_irrefl _, rfl⟩)
            | false => exact .inr (.inl ⟨rfl, sLt_of_not h1 (sEq_false.1 h2), rfl⟩)
        refine Br.mk (fun h3 => ⟨?_, rfl⟩) fun h3 => ⟨?_, rfl⟩ <;> simp only [x, y] <;> rcases hxy with ⟨h1, h2, h4⟩ | ⟨h1, h2, h4⟩ | ⟨h1, h2, h4⟩ <;> rw [h4] at h3 <;> first | exact absurd h3 (by decide) | (rw [h1, h2]; rfl)
    · refine ct_Less ?_
      have e1 : IntKind.i64.wrap (x + 1) = x + 1 := by
        simp only [x]; split <;> exact i64_eq (by omega) (by omega)
      refine Br.mk (fun h1 => ⟨?_, rfl⟩) fun h1 => ⟨?_, rfl⟩
      · simp only [y]; rw [e1, if_pos h1]
      · simp only [y]; rw [if_neg (by rw [h1]; simp)]; simp
  · refine ct_Less (Br.mk (fun h1 => ⟨?_, rfl⟩) fun h1 => ⟨?_, rfl⟩)
    · simp only [x]; rw [if_pos h1]; rfl
    · simp only [x]; rw [if_neg (by rw [h1]; simp)]

theorem law_KeysParts {lo hi at' key : ByteArray} (q : Q true h) : wp_dunnagelaw09_KeysParts lo hi at' key h Q := by
  refine (ct_awake ?_)
  refine ⟨fun b h' => b = !pWithin lo hi at' ∧ h' = h, ?_, Br.f rfl (ct_Within ⟨rfl, rfl⟩)⟩
  rintro _ b h1 ⟨hb, e⟩
  rw [e]
  refine ⟨fun b h' => b = (!pWithin lo hi at' || sEq at' emp) ∧ h' = h, ?_, Br.mk (fun h1 => ⟨by rw [← hb, h1]; rfl, rfl⟩) fun h1 => ⟨by rw [← hb, h1]; rfl, rfl⟩⟩
  rintro _ b2 h2 ⟨hb2, e⟩
  rw [e]
  refine Br.mk (fun _ => ct_awake q) fun h3 => ct_Within (ct_Within ?_)
  rw [h3] at hb2
  have hb2 := hb2.symm
  simp only [Bool.or_eq_false_iff, Bool.not_eq_false'] at hb2
  obtain ⟨hw, hne⟩ := hb2
  unfold pWithin at hw
  simp only [Bool.and_eq_true, Bool.not_eq_true', Bool.or_eq_true] at hw
  obtain ⟨hlo, hhi⟩ := hw
  -- lo ≤ at' < hi
  have key1 : pWithin lo at' key = true → pWithin at' hi key = false ∧ pWithin lo hi key = true := by
    unfold pWithin
    simp only [Bool.and_eq_true, Bool.not_eq_true', Bool.or_eq_true, hne, Bool.false_eq_true, false_or]
    rintro ⟨h1, h2⟩
    refine ⟨by rw [h2]; rfl, h1, ?_⟩
    rcases hhi with h3 | h3
    · exact .inl h3
    · exact .inr (sLt_trans h2 h3)
  have key2 : pWithin lo at' key = false → pWithin at' hi key = pWithin lo hi key := by
    unfold pWithin
    rw [hne]
    simp only [Bool.false_or]
    intro h1
    cases h2 : sLt key at' with
    | true =>
      rw [h2, Bool.and_true, Bool.not_eq_false'] at h1
      rw [h1]
    | false => rw [sLe_trans hlo h2]
  refine Br.mk (fun h4 => Br.t (by rw [(key1 h4).1]; rfl) (Br.t h4 (ct_Within ?_))) fun h4 => Br.f h4 (ct_Within ?_)
  · rw [(key1 h4).2]; exact q
  · rw [key2 h4, beq_self_eq_true]; exact q

theorem law_KeysMeet {a b c d key : ByteArray} (q : Q true h) : wp_dunnagelaw09_KeysMeet a b c d key h Q := by
  -- what lies in both
  have both : (pWithin a b key && pWithin c d key) = pWithin (pMax a c) (pMinHi b d) key := by
    unfold pWithin pMax pMinHi
    have h1 : (!sLt key a && !sLt key c) = !sLt key (bif sLt a c then c else a) := by
      cases h : sLt a c with
      | true =>
        cases h2 : sLt key c with
        | true => simp [h2]
        | false =>
          rw [sLe_trans (sLt_asymm h) h2]; simp [h2]
      | false =>
        cases h2 : sLt key a with
        | true => simp [h2]
        | false => rw [sLe_trans h h2]; simp [h2]
    have h2 : ((sEq b emp || sLt key b) && (sEq d emp || sLt key d)) = (sEq (bif sEq b emp then d else bif !sEq d emp && sLt d b then d else b) emp || sLt key (bif sEq b emp then d else bif !sEq d emp && sLt d b then d else b)) := by
      cases hb : sEq b emp with
      | true => simp
      | false =>
        cases hd : sEq d emp with
        | true => simp [hb]
        | false =>
          cases hdb : sLt d b with
          | true =>
            simp only [Bool.false_or, Bool.not_false, Bool.true_and, cond_false, cond_true, hd]
            cases hk : sLt key d with
            | true => rw [sLt_trans hk hdb]; rfl
            | false => simp
          | false =>
            simp only [Bool.false_or, Bool.not_false, Bool.true_and, cond_false, hb]
            cases hk : sLt key b with
            | true => rw [sLt_of_lt_of_le hk hdb]; rfl
            | false => simp
    rw [← h1, ← h2]
    cases sLt key a <;> cases sLt key c <;> simp
  have none_in : ∀ lo hi : ByteArray, pEmpty lo hi = true → pWithin lo hi key = false := by
    intro lo hi he
    unfold pEmpty at he
    unfold pWithin
    simp only [Bool.and_eq_true, Bool.not_eq_true'] at he
    rw [he.1]
    cases h : sLt key lo with
    | true => rfl
    | false => rw [sLe_trans he.2 h]; rfl
  refine (ct_Meet (ct_Within ?_))
  refine ⟨fun b' h' => b' = pWithin (pMax a c) (pMinHi b d) key ∧ h' = h, ?_, Br.mk (fun h1 => ct_Within ⟨by rw [← both, h1]; rfl, rfl⟩) fun h1 => ⟨by rw [← both, h1]; rfl, rfl⟩⟩
  rintro _ b' h' ⟨hb, e⟩
  rw [e]
  refine ct_awake (Br.f rfl ?_)
  unfold pMeet
  cases he : pEmpty (pMax a c) (pMinHi b d) with
  | true =>
    rw [none_in _ _ he] at hb
    subst hb
    exact Br.t rfl (Br.f rfl (Br.f (by rw [cond_true, sEq_self]; rfl) (Br.f (by rw [cond_true, sEq_self]; rfl) (Br.t rfl q))))
  | false =>
    refine Br.f rfl (Br.f rfl (ct_Within (Br.t (by rw [hb]; simp) (ct_Empty (Br.t (by rw [cond_false]; simp [he]) (ct_Within ?_))))))
    have : pWithin (pMax a c) (pMinHi b d) (pMax a c) = true := by
      unfold pEmpty at he
      unfold pWithin
      rw [sLt_irrefl]
      cases h1 : sEq (pMinHi b d) emp with
      | true => rfl
      | false =>
        rw [h1] at he
        simp only [Bool.not_false, Bool.true_and, Bool.not_eq_false'] at he
        rw [he]; rfl
    simp only [cond_false]
    rw [this]; exact q
end
end Go.Dn.W
