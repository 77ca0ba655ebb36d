/- Operations done to a list of pairs: the document's answer. -/
import Derived.Test.YtemelcaoepaoiaaDnDo
namespace Go.Dn.W
open Go Go.Dn Go.Proofs

section
variable {h : Mem}

theorem pMay_size {k : ByteArray} (hk : pMay k = true) : k.size ≤ 64 := by unfold pMay at hk; simp only [decide_eq_true_eq] at hk; exact hk.2
theorem Right.key {l : List Pr} (r : Right l) {i : Nat} {p : Pr} (hp : l[i]? = some p) : p.key.size ≤ 64 := by
  have := (r i p (List.getElem?_eq_some_iff.1 hp).1 hp).1
  simp only [pOk, Bool.and_eq_true] at this
  exact pMay_size this.1

theorem ct_ref_Right {s : Sl} {l : List Pr} {Q : Bool → Mem → Prop} (a : PairsAt h s l) (hl : l.length ≤ 140737488355328) (q : Q (decide (Right l)) h) : CallF PG fn_dunnageref11_Right [sval s] (.one (.leaf .bool)) h Q := by
  refine call_dunnageref11_Right ?_
  refine ⟨fun n h' => ∃ i : Nat, n = (i : Int) ∧ i ≤ l.length ∧ RightTo l i ∧ h' = h, fun n _ => l.length - n.toNat, ⟨0, rfl, Nat.zero_le _, fun i p hi => by omega, rfl⟩, ?_⟩
  rintro _ n h1 ⟨i, rfl, hi, hr, rfl⟩
  have no : ¬ Right l → Q false h1 := fun nr => by rw [decide_eq_false nr] at q; exact q
  refine Br.mk (fun h2 => ?_) fun h2 => ?_
  · simp only [decide_eq_true_eq] at h2
    rw [a.len] at h2
    obtain ⟨p, hp⟩ : ∃ p, l[i]? = some p := ⟨_, List.getElem?_eq_getElem (by omega)⟩
    obtain ⟨ad, ha, v, hc, hb⟩ := a.at_ i p hp
    have hk : cellAt h1 (ad.add (i * 2)) = some (.string p.key) := hc 0 _ rfl
    have hv : cellAt h1 ((ad.add (i * 2)).add 1) = some (sval v) := hc 1 _ rfl
    refine Idx.mk ha (by rw [a.len]; omega) ?_
    rw [nat_mul]
    refine Ld.key hk (ct_ref_May (Br.mk (fun h5 => no fun r => ?_) fun h5 => ?_))
    · have := (r i p (by omega) hp).1
      simp only [pOk, Bool.and_eq_true] at this
      rw [this.1] at h5; cases h5
    · simp only [Bool.not_eq_false'] at h5
      refine Idx.mk ha (by rw [a.len]; omega) (Ld.bytes (v := v) hv (Br.mk (fun h6 => no fun r => ?_) fun h6 => ?_))
      · simp only [decide_eq_true_eq] at h6
        have := (r i p (by omega) hp).1
        simp only [pOk, Bool.and_eq_true, decide_eq_true_eq] at this
        rw [hb.len] at h6
        omega
      · simp only [decide_eq_false_iff_not] at h6
        rw [hb.len] at h6
        have hok : pOk p = true := by simp only [pOk, Bool.and_eq_true, decide_eq_true_eq]; exact ⟨h5, by omega⟩
        have next : (∀ (j : Nat) (q : Pr), i = j + 1 → l[j]? = some q → sLt q.key p.key = true) → RightTo l (i + 1) := by
          intro hj k r hk hr'
          rcases Nat.lt_or_ge k i with hlt | hge
          · exact hr k r hlt hr'
          · have : k = i := by omega
            subst this
            rw [hp] at hr'; cases hr'
            exact ⟨hok, hj⟩
        refine Br.mk (fun h7 => ?_) fun h7 => ?_
        · simp only [decide_eq_true_eq] at h7
          obtain ⟨j, rfl⟩ : ∃ j, i = j + 1 := ⟨i - 1, by omega⟩
          obtain ⟨p', hp'⟩ : ∃ p, l[j]? = some p := ⟨_, List.getElem?_eq_getElem (by omega)⟩
          obtain ⟨ad', ha', v', hc', hb'⟩ := a.at_ j p' hp'
          have ew : IntKind.i64.wrap (((j + 1 : Nat) : Int) - 1) = (j : Int) := by rw [i64_eq (by omega) (by omega)]; omega
          rw [ew]
          refine Idx.mk ha' (by rw [a.len]; omega) ?_
          rw [nat_mul]
          have hk' : cellAt h1 (ad'.add (j * 2)) = some (.string p'.key) := hc' 0 _ rfl
          have hm : pMay p'.key = true := by
            have := (hr j p' (by omega) hp').1
            simp only [pOk, Bool.and_eq_true] at this
            exact this.1
          refine Ld.key hk' (Idx.mk ha (by rw [a.len]; omega) (Ld.key hk (ct_ref_Less (by have := pMay_size hm; omega) (Br.mk (fun h8 => no fun r => ?_) fun h8 => ?_))))
          · simp only [Bool.not_eq_true'] at h8
            have := (r (j + 1) p (by omega) hp).2 j p' rfl hp'
            rw [this] at h8; cases h8
          · simp only [Bool.not_eq_false'] at h8
            rw [wrap_succ (by omega)]
            exact ⟨⟨j + 1 + 1, rfl, by omega, next fun k q hk hq => by
              have : k = j := by omega
              subst this; rw [hp'] at hq; cases hq; exact h8, rfl⟩, by simp only [Int.toNat_natCast]; omega⟩
        · simp only [decide_eq_false_iff_not] at h7
          have hi0 : i = 0 := by omega
          subst hi0
          rw [wrap_succ (by omega)]
          exact ⟨⟨1, rfl, by omega, next fun k q hk => by omega, rfl⟩, by simp only [Int.toNat_natCast]; omega⟩
  · simp only [decide_eq_false_iff_not] at h2
    rw [a.len] at h2
    have : i = l.length := by omega
    rw [this] at hr
    rw [decide_eq_true (show Right l from hr)] at q
    exact q

theorem ct_ref_Size {s : Sl} {l : List Opn} {Q : Int → Mem → Prop} (a : OpsAt h s l) (hl : l.length ≤ 140737488355328)
    (q : Q ((satS (opSum l) : Nat) : Int) h) : CallF PG fn_dunnageref10_Size [sval s] (.one (.leaf (.int .i64))) h Q := by
  refine call_dunnageref10_Size ?_
  refine ⟨fun n m h' => ∃ i : Nat, m = (i : Int) ∧ n = ((satS (opSum (l.take i)) : Nat) : Int) ∧ i ≤ l.length ∧ h' = h, fun _ n _ => l.length - n.toNat, ⟨0, rfl, rfl, Nat.zero_le _, rfl⟩, ?_⟩
  rintro _ n m h1 ⟨i, rfl, rfl, hi, rfl⟩
  refine Br.mk (fun h2 => ?_) fun h2 => ?_
  · simp only [decide_eq_true_eq] at h2
    rw [a.len] at h2
    obtain ⟨o, ho⟩ : ∃ o, l[i]? = some o := ⟨_, List.getElem?_eq_getElem (by omega)⟩
    obtain ⟨ad, ha, v, hc, hb⟩ := a.at_ i o ho
    have hk : cellAt h1 (ad.add (i * 3)) = some (.string o.key) := hc 0 _ rfl
    have hv : cellAt h1 ((ad.add (i * 3)).add 1) = some (sval v) := hc 1 _ rfl
    refine Idx.mk ha (by rw [a.len]; omega) ?_
    rw [nat_mul]
    refine Ld.key hk (Idx.mk ha (by rw [a.len]; omega) (Ld.bytes (v := v) hv ?_))
    have hs : satS (opSum (l.take i)) ≤ 2147483647 := Nat.min_le_right _ _
    have e1 : opSum (l.take (i + 1)) = opSum (l.take i) + opLen o := by
      rw [List.take_add_one, ho, opSum_append]; simp [opSum]
    have m1 : (if (o.key.size : Int) < 2147483647 then (o.key.size : Int) else 2147483647) = ((satS o.key.size : Nat) : Int) := by unfold satS; split <;> omega
    have m2 : (if (v.len : Int) < 2147483647 then (v.len : Int) else 2147483647) = ((satS o.val.length : Nat) : Int) := by rw [hb.len]; unfold satS; split <;> omega
    have e2 : IntKind.i64.wrap (IntKind.i64.wrap (((satS (opSum (l.take i)) : Nat) : Int) + ((satS o.key.size : Nat) : Int)) + ((satS o.val.length : Nat) : Int)) = ((satS (opSum (l.take i)) + satS o.key.size + satS o.val.length : Nat) : Int) := by
      have h1 : satS o.key.size ≤ 2147483647 := Nat.min_le_right _ _
      have h2 : satS o.val.length ≤ 2147483647 := Nat.min_le_right _ _
      rw [i64_eq (n := ((satS (opSum (l.take i)) : Nat) : Int) + _) (by omega) (by omega), i64_eq (by omega) (by omega)]
      omega
    rw [m1, m2, e2, wrap_succ (by omega)]
    have e3 : (if ((satS (opSum (l.take i)) + satS o.key.size + satS o.val.length : Nat) : Int) < 2147483647 then ((satS (opSum (l.take i)) + satS o.key.size + satS o.val.length : Nat) : Int) else 2147483647) = ((satS (opSum (l.take (i + 1))) : Nat) : Int) := by
      rw [e1]
      unfold satS opLen
      split <;> omega
    rw [e3]
    exact ⟨⟨i + 1, rfl, rfl, by omega, rfl⟩, by simp only [Int.toNat_natCast]; omega⟩
  · simp only [decide_eq_false_iff_not] at h2
    rw [a.len] at h2
    have e : i = l.length := by omega
    rw [e, List.take_length]
    exact q

theorem ct_ref_Check {s : Sl} {l : List Opn} {Q : Int → Mem → Prop} (a : OpsAt h s l) (hl : l.length ≤ 140737488355328) (q : Q (pBatch l) h) : CallF PG fn_dunnageref10_Check [sval s] (.one (.leaf (.int .i64))) h Q := by
  refine call_dunnageref10_Check (Br.mk (fun h0 => ?_) fun h0 => ?_)
  · have h0 : l.length = 0 := by rw [a.len] at h0; simpa using h0
    unfold pBatch at q
    rw [if_pos (.inl h0)] at q
    exact q
  have h0 : l.length ≠ 0 := by rw [a.len] at h0; simpa using h0
  refine ⟨fun n h' => ∃ i : Nat, n = (i : Int) ∧ i ≤ l.length ∧ (l.take i).any bad1 = false ∧ h' = h, fun n _ => l.length - n.toNat, ⟨0, rfl, Nat.zero_le _, rfl, rfl⟩, ?_⟩
  rintro _ n h1 ⟨i, rfl, hi, hn, rfl⟩
  have yes1 : ∀ o, l[i]? = some o → bad1 o = true → Q 1 h1 := by
    intro o ho hb
    have : l.any bad1 = true := List.any_eq_true.2 ⟨o, List.mem_of_getElem? ho, hb⟩
    unfold pBatch at q
    rw [if_pos (.inr this)] at q
    exact q
  refine Br.mk (fun h2 => ?_) fun h2 => ?_
  · simp only [decide_eq_true_eq] at h2
    rw [a.len] at h2
    obtain ⟨o, ho⟩ : ∃ o, l[i]? = some o := ⟨_, List.getElem?_eq_getElem (by omega)⟩
    obtain ⟨ad, ha, v, hc, hb⟩ := a.at_ i o ho
    have hk : cellAt h1 (ad.add (i * 3)) = some (.string o.key) := hc 0 _ rfl
    have hv : cellAt h1 ((ad.add (i * 3)).add 1) = some (sval v) := hc 1 _ rfl
    have hd : cellAt h1 ((ad.add (i * 3)).add 2) = some (.bool o.del) := hc 2 _ rfl
    have next : bad1 o = false → (∃ i' : Nat, IntKind.i64.wrap ((i : Int) + 1) = (i' : Int) ∧ i' ≤ l.length ∧ (l.take i').any bad1 = false ∧ h1 = h1) ∧ l.length - (IntKind.i64.wrap ((i : Int) + 1)).toNat < l.length - (i : Int).toNat := by
      intro hb
      rw [wrap_succ (by omega)]
      refine ⟨⟨i + 1, rfl, by omega, ?_, rfl⟩, by simp only [Int.toNat_natCast]; omega⟩
      rw [List.take_add_one, ho, List.any_append, hn]
      simp [hb]
    refine Idx.mk ha (by rw [a.len]; omega) ?_
    rw [nat_mul]
    refine Ld.key hk (ct_ref_May (Br.mk (fun h5 => yes1 o ho ?_) fun h5 => ?_))
    · unfold bad1; rw [h5]; rfl
    · refine Idx.mk ha (by rw [a.len]; omega) (Ld.flag (v := o.del) hd (Br.mk (fun h6 => ?_) fun h6 => next ?_))
      · refine Idx.mk ha (by rw [a.len]; omega) (Ld.bytes (v := v) hv (Br.mk (fun h7 => yes1 o ho ?_) fun h7 => next ?_))
        · simp only [decide_eq_true_eq] at h7
          rw [hb.len] at h7
          unfold bad1; rw [h6, decide_eq_true (by omega)]; simp
        · simp only [decide_eq_false_iff_not] at h7
          rw [hb.len] at h7
          unfold bad1; rw [h5, h6, decide_eq_false (by omega)]; rfl
      · unfold bad1; rw [h5, h6]; rfl
  · simp only [decide_eq_false_iff_not] at h2
    rw [a.len] at h2
    have e : i = l.length := by omega
    rw [e, List.take_length] at hn
    have n1 : ¬ (l.length = 0 ∨ l.any bad1 = true) := by rw [hn]; simp; intro h'; exact h0 (by rw [h']; rfl)
    clear e hi i h2 yes1
    unfold pBatch at q
    rw [if_neg n1] at q
    refine ⟨fun n h' => ∃ i : Nat, n = (i : Int) ∧ i ≤ l.length ∧ (l.take i).any bad2 = false ∧ h' = h1, fun n _ => l.length - n.toNat, ⟨0, rfl, Nat.zero_le _, rfl, rfl⟩, ?_⟩
    rintro _ n h2 ⟨i, rfl, hi, hn, rfl⟩
    refine Br.mk (fun h3 => ?_) fun h3 => ?_
    · simp only [decide_eq_true_eq] at h3
      rw [a.len] at h3
      obtain ⟨o, ho⟩ : ∃ o, l[i]? = some o := ⟨_, List.getElem?_eq_getElem (by omega)⟩
      obtain ⟨ad, ha, v, hc, hb⟩ := a.at_ i o ho
      have hv : cellAt h2 ((ad.add (i * 3)).add 1) = some (sval v) := hc 1 _ rfl
      refine Idx.mk ha (by rw [a.len]; omega) ?_
      rw [nat_mul]
      refine Ld.bytes (v := v) hv (Br.mk (fun h7 => ?_) fun h7 => ?_)
      · simp only [decide_eq_true_eq] at h7
        rw [hb.len] at h7
        have : l.any bad2 = true := List.any_eq_true.2 ⟨o, List.mem_of_getElem? ho, by unfold bad2; exact decide_eq_true (by omega)⟩
        rw [if_pos (.inr (.inr this))] at q
        exact q
      · simp only [decide_eq_false_iff_not] at h7
        rw [hb.len] at h7
        rw [wrap_succ (by omega)]
        refine ⟨⟨i + 1, rfl, by omega, ?_, rfl⟩, by simp only [Int.toNat_natCast]; omega⟩
        rw [List.take_add_one, ho, List.any_append, hn]
        simp [bad2]; omega
    · simp only [decide_eq_false_iff_not] at h3
      rw [a.len] at h3
      have e : i = l.length := by omega
      rw [e, List.take_length] at hn
      refine Br.mk (fun h4 => ?_) fun h4 => ?_
      · simp only [decide_eq_true_eq] at h4
        rw [a.len] at h4
        rw [if_pos (.inl (by omega))] at q
        exact q
      · simp only [decide_eq_false_iff_not] at h4
        rw [a.len] at h4
        refine ct_ref_Size a hl (Br.mk (fun h5 => ?_) fun h5 => ?_)
        · simp only [decide_eq_true_eq] at h5
          rw [if_pos (.inr (.inl (by unfold satS at h5; omega)))] at q
          exact q
        · simp only [decide_eq_false_iff_not] at h5
          rw [if_neg (by rw [hn]; unfold satS at h5; rintro (h' | h' | h') <;> first | omega | cases h')] at q
          exact q

/-! ### one operation -/

/-- a list whose row lies from B' on, its values from B on -/
def OwnP2 (h : Mem) (B' B : Nat) (s : Sl) (l : List Pr) : Prop := ∃ hl, Owns h B' ty_api_Pair 2 s (hcells hl) ∧ Heads h B hl l
theorem OwnP2.nil (h : Mem) (B' B : Nat) : OwnP2 h B' B ⟨none, 0, 0⟩ [] := ⟨[], Owns.nil h B' _ _, rfl, fun i q p hq => by simp at hq⟩
theorem OwnP2.ext {h h' : Mem} {B' B : Nat} {s : Sl} {l : List Pr} (x : OwnP2 h B' B s l) (e : Ext h.size h h') : OwnP2 h' B' B s l := let ⟨hl, o, hh⟩ := x; ⟨hl, o.ext e, hh.ext e⟩
theorem OwnP2.own {h : Mem} {B' B : Nat} {s : Sl} {l : List Pr} (x : OwnP2 h B' B s l) (hB : B ≤ B') : OwnP h B s l := let ⟨hl, o, hh⟩ := x; ⟨hl, o.base hB, hh⟩
theorem OwnP2.len {h : Mem} {B' B : Nat} {s : Sl} {l : List Pr} (x : OwnP2 h B' B s l) : s.len = l.length := by
  obtain ⟨hl, o, hh⟩ := x
  have := o.1
  rw [hcells_length, hh.len] at this
  omega
theorem OwnP2.push {B' B : Nat} {s : Sl} {l : List Pr} {a : Addr} {p : Pr} {v : Sl} {K : Sl → Mem → Prop} (hB : B' ≤ h.size) (x : OwnP2 h B' B s l) (hc : Cells h a (pcells p.key v)) (hv : OwnB h B ty_uint8 v p.val) (hs : (l.length + 1) * 40 ≤ 140737488355328)
    (hk : ∀ s' h', OwnP2 h' B' B s' (l ++ [p]) → Ext B' h h' → Grown s h h' → (∀ (B'' : Nat) (t : Sl) (m : List UInt8), OwnB h B'' ty_uint8 t m → OwnB h' B'' ty_uint8 t m) → K s' h') :
    PrimT PG (Builtin.append_ #[ty_sl_api_Pair, ty_sl_api_Pair] ty_sl_api_Pair #[sval s, sval ⟨some a, 1, 1⟩]) (.one (.leaf .sl)) h K := by
  have hlen := x.len
  obtain ⟨hl, o, hh⟩ := x
  refine append_go (v := ⟨some a, 1, 1⟩) und_pairs info_pair o (news := pcells p.key v) rfl (fun b hb => by cases hb; exact hc) (fun hn => by cases hn) (one_pcells _ _) (by rw [hlen]; exact hs) (by decide) hB fun s' h' _ ho g => hk s' h' ⟨hl ++ [(p.key, v)], ?_, ?_, ?_⟩ (o.grownExt hB g) g fun B'' t m ob => Owns.grown ob o (by decide) g
  · rw [hcells_append]; exact ho
  · rw [List.length_append, List.length_append, hh.len]; rfl
  · intro i q r hq hr
    have hh' := hh.grown o g
    rcases Nat.lt_or_ge i hl.length with hi | hi
    · rw [List.getElem?_append_left hi] at hq
      rw [List.getElem?_append_left (by rw [← hh.len]; exact hi)] at hr
      exact hh'.is i q r hq hr
    · rw [List.getElem?_append_right hi] at hq
      rw [List.getElem?_append_right (by rw [← hh.len]; exact hi)] at hr
      rw [← hh.len] at hr
      cases hd : i - hl.length with
      | zero => rw [hd] at hq hr; cases hq; cases hr; exact ⟨rfl, Owns.grown hv o (by decide) g⟩
      | succ k => rw [hd] at hq; simp at hq

/-- the pair of a list at a place, as it lies -/
theorem OwnP.get {B : Nat} {s : Sl} {l : List Pr} (x : OwnP h B s l) {i : Nat} {p : Pr} (hp : l[i]? = some p) : ∃ a v, s.a = some a ∧ Cells h (a.add (i * 2)) (pcells p.key v) ∧ OwnB h B ty_uint8 v p.val := by
  have hlen := x.len
  obtain ⟨hl, o, hh⟩ := x
  have hi := (List.getElem?_eq_some_iff.1 hp).1
  obtain ⟨a, ha⟩ := o.some (by omega)
  obtain ⟨g, rfl⟩ := o.addr ha
  obtain ⟨q, hq⟩ : ∃ q, hl[i]? = some q := ⟨_, List.getElem?_eq_getElem (by rw [hh.len]; exact hi)⟩
  obtain ⟨h1, h2⟩ := hh.is i q p hq hp
  refine ⟨_, q.2, ha, fun j v hv => ?_, h2⟩
  rw [← h1] at hv
  have := o.cells ha (i * 2 + j) v (hcells_get hq j v hv)
  rw [add_off] at this
  rw [add_off, add_off]
  simpa [Nat.add_assoc] using this

theorem goOne_length (o : Opn) : ∀ (d : Bool) (l : List Pr), (goOne o d l).length ≤ l.length + 1
  | d, [] => by unfold goOne; split <;> simp
  | d, p :: l => by
    have h1 := goOne_length o (d || !sLt p.key o.key) l
    rw [goOne]
    simp only [List.length_append, List.length_cons]
    cases d with
    | true =>
      have : (goOne o true l).length ≤ l.length := by rw [goOne_true]; exact List.length_filter_le _ _
      simp only [Bool.true_or, Bool.not_true, Bool.false_and, Bool.false_eq_true, if_false, List.length_nil]
      split <;> simp <;> omega
    | false =>
      cases h2 : sLt p.key o.key with
      | true =>
        rw [h2] at h1
        simp only [Bool.not_true, Bool.and_false, Bool.false_eq_true, if_false, List.length_nil, Bool.or_false] at h1 ⊢
        split <;> simp <;> omega
      | false =>
        have : (goOne o true l).length ≤ l.length := by rw [goOne_true]; exact List.length_filter_le _ _
        simp only [Bool.not_false, Bool.and_true, if_true, List.length_cons, List.length_nil, Bool.or_true]
        split <;> simp <;> omega

theorem ct_ref_One {B : Nat} {s v : Sl} {l : List Pr} {o : Opn} {Q : Sl → Mem → Prop} (hB : B ≤ h.size) (x : OwnP h B s l) (hb : BytesSl h v o.val) (r : Right l) (ho : oOk o = true) (hl : (l.length + 1) * 40 ≤ 140737488355328)
    (q : ∀ s' h', Ext h.size h h' → OwnP h' B s' (doOne l o) → Q s' h') : CallF PG fn_dunnageref11_One [sval s, .agg #[.string o.key, sval v, .bool o.del]] (.one (.leaf .sl)) h Q := by
  have hlen := x.len
  have hol : o.val.length ≤ 4096 := by simp only [oOk, Bool.and_eq_true, decide_eq_true_eq] at ho; exact ho.2
  refine call_dunnageref11_One (New.go fun h1 _ x1 z1 r1 => Ld.flag (v := o.del) (by rw [add_off]; exact row_cell r1 rfl) ?_)
  refine ⟨fun out d n h' => ∃ (i : Nat) (pre : List Pr), n = (i : Int) ∧ i ≤ l.length ∧ Ext h1.size h1 h' ∧ OwnP2 h' h1.size B out pre ∧ pre ++ goOne o d (l.drop i) = doOne l o, fun _ _ n _ => l.length - n.toNat,
    ⟨0, [], rfl, Nat.zero_le _, Ext.refl _ _, OwnP2.nil _ _ _, by rw [List.nil_append, List.drop_zero, goOne_eq r]⟩, ?_⟩
  have hdl := doOne_length (l := l) o
  rintro _ out d n h2 ⟨i, pre, rfl, hi, x2, op, hg⟩
  have x02 : Ext h.size h h2 := x1.trans (x2.less x1.size)
  have hpl : pre.length + (goOne o d (l.drop i)).length ≤ l.length + 1 := by rw [← List.length_append, hg]; exact hdl
  have xp := x.ext x02
  have r2 : ∀ H, Ext h1.size h1 H → H[h.size]? = some (.cells #[.string o.key, sval v, .bool o.del] ty_api_Op (0, 0)) := fun H xH => (xH.block _ (by omega)).trans r1
  have hz1 : h1.size ≤ h2.size := x2.size
  refine Br.mk (fun h3 => ?_) fun h3 => ?_
  · simp only [decide_eq_true_eq] at h3
    rw [hlen] at h3
    obtain ⟨p, hp⟩ : ∃ p, l[i]? = some p := ⟨_, List.getElem?_eq_getElem (by omega)⟩
    have hdrop : l.drop i = p :: l.drop (i + 1) := by
      have hi' := (List.getElem?_eq_some_iff.1 hp).1
      rw [List.drop_eq_getElem_cons hi']
      congr 1
      rw [List.getElem?_eq_getElem hi'] at hp; exact Option.some.inj hp
    rw [hdrop, goOne] at hg
    rw [hdrop, goOne, List.length_append, List.length_append] at hpl
    -- the pair itself, then on
    have rest : ∀ (H : Mem) (out' : Sl) (pre' : List Pr) (d' : Bool), Ext h1.size h1 H → OwnP2 H h1.size B out' pre' → pre' ++ ((if p.key = o.key then [] else [p]) ++ goOne o d' (l.drop (i + 1))) = doOne l o → ∀ (K : Sl → Mem → Prop),
        (∀ s3 h4, Ext h1.size h1 h4 → OwnP2 h4 h1.size B s3 (pre' ++ [p]) → pre' ++ [p] ++ goOne o d' (l.drop (i + 1)) = doOne l o → K s3 h4) → (p.key = o.key → pre' ++ goOne o d' (l.drop (i + 1)) = doOne l o → K out' H) →
        Idx s.a s.len (i : Int) fun (p24 : Addr) => Ld PG ty_string (p24.add ((i : Int).toNat * 2)) (Kd.one (Cmp.leaf Leaf.str)) H fun (t25 : ByteArray) => Ld PG ty_string (Addr.mk h.size 0 none) (Kd.one (Cmp.leaf Leaf.str)) H fun (t26 : ByteArray) =>
          Br (!sEq t25 t26) (Idx s.a s.len (i : Int) fun (p27 : Addr) => Ld PG ty_api_Pair (p27.add ((i : Int).toNat * 2)) (Kd.one (Cmp.agg [Leaf.str, Leaf.sl])) H fun (t28 : ByteArray) (s29 : Sl) =>
            New (Obj.cells #[Value.string t28, Value.slice s29.a s29.len s29.cap] ty_api_Pair) H fun (k30 : Nat) (h31 : Mem) =>
              PrimT PG (Builtin.append_ #[ty_sl_api_Pair, ty_sl_api_Pair] ty_sl_api_Pair #[Value.slice out'.a out'.len out'.cap, Value.slice (some (Addr.mk k30 0 none)) 1 1]) (Kd.one (Cmp.leaf Leaf.sl)) h31 fun (s32 : Sl) (h33 : Mem) => K s32 h33) (K out' H) := by
      intro H out' pre' d' xH oH hgH K k1 k2
      obtain ⟨ad, w, ha, hc, hw⟩ := (x.ext (x1.trans (xH.less x1.size))).get hp
      refine Idx.mk ha (by omega) ?_
      rw [nat_mul]
      refine Ld.key (hc 0 _ rfl) (Ld.key (row_cell (r2 H xH) rfl) (Br.mk (fun e => ?_) fun e => ?_))
      · have hne : p.key ≠ o.key := by simpa [sEq_false] using e
        rw [if_neg hne] at hgH
        refine Idx.mk ha (by omega) ?_
        refine Ld.pair hc (New.go fun h31 _ x31 z31 r31 => ?_)
        have e1 : h1.size ≤ h31.size := Nat.le_trans xH.size x31.size
        refine OwnP2.push (p := p) (v := w) e1 (oH.ext x31) (Cells.whole r31) (Owns.ext hw x31) ?_ fun s3 h4 o4 x4 g4 _ => k1 s3 h4 (xH.trans ((x31.less xH.size).trans x4)) o4 (by rw [List.append_assoc]; exact hgH)
        have := congrArg List.length hgH
        simp only [List.length_append, List.length_cons, List.length_nil] at this
        omega
      · have he : p.key = o.key := by simpa [sEq_iff] using e
        rw [if_pos he, List.nil_append] at hgH
        exact k2 he hgH
    refine ⟨fun c h' => c = (!d && !sLt p.key o.key) ∧ h' = h2, ?_, ?_⟩
    · rintro _ c h' ⟨rfl, e⟩
      obtain rfl := e.symm
      have step : ∀ s3 h4 pre' (d' : Bool), Ext h1.size h1 h4 → OwnP2 h4 h1.size B s3 pre' → pre' ++ goOne o d' (l.drop (i + 1)) = doOne l o → (∃ (k : Nat) (pre : List Pr), IntKind.i64.wrap ((i : Int) + 1) = (k : Int) ∧ k ≤ l.length ∧ Ext h1.size h1 h4 ∧ OwnP2 h4 h1.size B s3 pre ∧ pre ++ goOne o d' (l.drop k) = doOne l o) ∧ l.length - (IntKind.i64.wrap ((i : Int) + 1)).toNat < l.length - (i : Int).toNat := by
        intro s3 h4 pre' d' x4 o4 g4
        rw [wrap_succ (by omega)]
        exact ⟨⟨i + 1, pre', rfl, by omega, x4, o4, g4⟩, by simp only [Int.toNat_natCast]; omega⟩
      cases hc : (!d && !sLt p.key o.key) with
      | true =>
        rw [hc] at hg hpl
        simp only [if_true] at hg hpl
        have hdd : (d || !sLt p.key o.key) = true := by simp only [Bool.and_eq_true] at hc; rw [hc.2]; simp
        rw [hdd] at hg hpl
        refine Br.t rfl (Ld.key (row_cell (r2 _ x2) rfl) (Ld.bytes (v := v) (by rw [add_off]; exact row_cell (r2 _ x2) rfl) (ct_CopyBytes (hb.ext x02) (by omega) fun w h4 x4 ow => ⟨Ld.key (row_cell (r2 _ (x2.trans (x4.less hz1))) rfl) rfl, New.go fun h5 _ x5 z5 r5 => ?_⟩)))
        have x15 : Ext h1.size h1 h5 := x2.trans ((x4.less hz1).trans (x5.less (Nat.le_trans hz1 x4.size)))
        refine OwnP2.push (p := ⟨o.key, o.val⟩) (v := w) (Nat.le_trans hz1 (Nat.le_trans x4.size x5.size)) ((op.ext x4).ext x5) (Cells.whole r5) ((Owns.ext ow x5).base (Nat.le_trans hB (Nat.le_trans x1.size hz1))) ?_ fun s6 h6 o6 x6 g6 _ => ?_
        · simp only [List.length_cons, List.length_nil] at hpl; omega
        · exact rest h6 s6 (pre ++ [⟨o.key, o.val⟩]) true (x15.trans x6) o6 (by rw [List.append_assoc]; exact hg) _ (fun s3 h4 x' o' g' => step s3 h4 _ true x' o' g') fun _ g' => step _ _ _ true (x15.trans x6) o6 g'
      | false =>
        rw [hc] at hg
        simp only [Bool.false_eq_true, if_false, List.nil_append] at hg
        have hdd : (d || !sLt p.key o.key) = d := by
          cases d with
          | true => rfl
          | false => simpa using hc
        rw [hdd] at hg
        exact Br.f rfl (rest h2 out pre d x2 op hg _ (fun s3 h4 x' o' g' => step s3 h4 _ d x' o' g') fun _ g' => step _ _ _ d x2 op g')
    · cases d with
      | true => exact Br.f rfl ⟨rfl, rfl⟩
      | false =>
        obtain ⟨ad, w, ha, hc, hw⟩ := xp.get hp
        refine Br.t rfl (Idx.mk ha (by omega) ?_)
        rw [nat_mul]
        exact Ld.key (hc 0 _ rfl) (Ld.key (row_cell (r2 _ x2) rfl) (ct_ref_Less (by have := r.key hp; omega) ⟨rfl, rfl⟩))
  · simp only [decide_eq_false_iff_not] at h3
    rw [hlen] at h3
    have e : i = l.length := by omega
    rw [e, List.drop_length, goOne] at hg
    rw [e, List.drop_length, goOne] at hpl
    cases d with
    | true =>
      simp only [if_true, List.append_nil] at hg
      refine Br.f rfl (q _ _ x02 ?_)
      rw [← hg]; exact op.own (Nat.le_trans hB x1.size)
    | false =>
      simp only [Bool.false_eq_true, if_false, List.length_cons, List.length_nil] at hg hpl
      refine Br.t rfl (Ld.key (row_cell (r2 _ x2) rfl) (Ld.bytes (v := v) (by rw [add_off]; exact row_cell (r2 _ x2) rfl) (ct_CopyBytes (hb.ext x02) (by omega) fun w h4 x4 ow => ⟨Ld.key (row_cell (r2 _ (x2.trans (x4.less hz1))) rfl) rfl, New.go fun h5 _ x5 z5 r5 => ?_⟩)))
      have x05 : Ext h.size h h5 := x02.trans ((x4.less x02.size).trans (x5.less (Nat.le_trans x02.size x4.size)))
      refine OwnP2.push (p := ⟨o.key, o.val⟩) (v := w) (Nat.le_trans hz1 (Nat.le_trans x4.size x5.size)) ((op.ext x4).ext x5) (Cells.whole r5) ((Owns.ext ow x5).base (Nat.le_trans hB (Nat.le_trans x1.size hz1))) (by omega) fun s6 h6 o6 x6 g6 _ => ?_
      refine q _ _ (x05.trans (x6.less x1.size)) ?_
      rw [← hg]; exact o6.own (Nat.le_trans hB x1.size)

theorem ct_ref_Do {s t : Sl} {l : List Pr} {ops : List Opn} {Q : Sl → Int → Mem → Prop} (a : PairsAt h s l) (b : OpsAt h t ops) (hl : l.length * 40 + 1280 ≤ 140737488355328) (hol : ops.length ≤ 140737488355328)
    (q : ∀ s' h', Ext h.size h h' → OwnP h' h.size s' (pDo l ops) → Q s' (pErr l ops) h') : CallF PG fn_dunnageref11_Do [sval s, sval t] (.tup [.leaf .sl, .leaf (.int .i64)]) h Q := by
  refine call_dunnageref11_Do (ct_ref_Right a (by omega) (Br.mk (fun nr => ?_) fun r => ?_))
  · have nr : ¬ Right l := by simpa using nr
    have e : pErr l ops = 11 := if_neg nr
    have := q ⟨none, 0, 0⟩ h (Ext.refl _ _) (by unfold pDo; rw [e]; exact OwnP.nil _ _)
    rw [e] at this; exact this
  have r : Right l := by simpa using r
  have e : pErr l ops = pBatch ops := if_pos r
  refine ct_ref_Check b hol (Br.mk (fun hne => ?_) fun heq => ?_)
  · have hne : pBatch ops ≠ 0 := by simpa using hne
    have := q ⟨none, 0, 0⟩ h (Ext.refl _ _) (by unfold pDo; rw [e, if_neg hne]; exact OwnP.nil _ _)
    rw [e] at this; exact this
  have heq : pBatch ops = 0 := by simpa using heq
  obtain ⟨hn32, hops⟩ := pBatch_zero heq
  have q : ∀ s' h', Ext h.size h h' → OwnP h' h.size s' (doAll l ops) → Q s' 0 h' := fun s' h' x o => by
    have := q s' h' x (by unfold pDo; rw [e, if_pos heq]; exact o)
    rw [e, heq] at this; exact this
  refine ct_CopyPairs a r.short (by omega) fun out0 h1 x1 o1 => ?_
  refine ⟨fun t n h' => ∃ i : Nat, n = (i : Int) ∧ i ≤ ops.length ∧ Ext h.size h h' ∧ OwnP h' h.size t (doAll l (ops.take i)), fun _ n _ => ops.length - n.toNat, ⟨0, rfl, Nat.zero_le _, x1, o1⟩, ?_⟩
  rintro _ out n h2 ⟨i, rfl, hi, x, o⟩
  refine Br.mk (fun h3 => ?_) fun h3 => ?_
  · simp only [decide_eq_true_eq] at h3
    rw [b.len] at h3
    obtain ⟨p, hp⟩ : ∃ p, ops[i]? = some p := ⟨_, List.getElem?_eq_getElem (by omega)⟩
    have hpk := hops p (List.mem_of_getElem? hp)
    have hops' : ∀ o ∈ ops.take i, oOk o = true := fun o ho => (hops o (List.mem_of_mem_take ho)).1
    have rr := r.doAll hops'
    have hll := doAll_length r hops'
    have hll' : (doAll l (ops.take i)).length ≤ l.length + 31 := by rw [List.length_take] at hll; omega
    have hnext : doAll l (ops.take (i + 1)) = doOne (doAll l (ops.take i)) p := by rw [List.take_add_one, hp, ← doAll_snoc]; rfl
    generalize doAll l (ops.take i) = m at rr hll' hnext o
    obtain ⟨ad, ha, v, hc, hb⟩ := (b.ext x).at_ i p hp
    refine Idx.mk ha (by rw [b.len]; omega) ?_
    rw [nat_mul]
    refine Ld.op hc (ct_ref_One x.size o hb rr hpk.1 (by omega) fun s' h' x' o' => ?_)
    rw [wrap_succ (by omega)]
    exact ⟨⟨i + 1, rfl, by omega, x.trans (x'.less x.size), by rw [hnext]; exact o'⟩, by simp only [Int.toNat_natCast]; omega⟩
  · simp only [decide_eq_false_iff_not] at h3
    rw [b.len] at h3
    have : i = ops.length := by omega
    rw [this, List.take_length] at o
    exact q out h2 x o
end
end Go.Dn.W
