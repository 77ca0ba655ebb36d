/- Laws of layer 11: differences, and what they make. -/
import Derived.Test.YtemelcaoepaoiaaDnRDif
set_option linter.unusedVariables false
namespace Go.Dn.W
open Go Go.Dn Go.Proofs

/-! ### the plain law -/

def opOfD (d : Df) : Opn := ⟨d.key, d.new, !d.is⟩

theorem doOne_at {D X M : List Pr} {o : Opn} (h1 : ∀ d ∈ D, sLt d.key o.key = true) (h2 : ∀ x ∈ X, sLt o.key x.key = true) (h3 : ∀ m ∈ M, m.key = o.key) : doOne (D ++ (M ++ X)) o = D ++ (newOf o ++ X) := by
  unfold doOne
  rw [List.filter_append, List.filter_append, List.filter_append, List.filter_append]
  rw [List.filter_eq_self.2 h1, List.filter_eq_self.2 h2]
  rw [List.filter_eq_nil_iff (l := M) |>.2 fun m hm => by rw [h3 m hm, sLt_irrefl]; simp]
  rw [List.filter_eq_nil_iff (l := X) |>.2 fun x hx => by rw [sLt_asymm (h2 x hx)]; simp]
  rw [List.filter_eq_nil_iff (l := D) |>.2 fun d hd => by rw [sLt_asymm (h1 d hd)]; simp]
  rw [List.filter_eq_nil_iff (l := M) |>.2 fun m hm => by rw [h3 m hm, sLt_irrefl]; simp]
  simp

def Rising (l : List Pr) : Prop := l.Pairwise fun p q => sLt p.key q.key = true
theorem rising_split {D : List Pr} {p : Pr} {l : List Pr} (h : Rising (D ++ p :: l)) : (∀ d ∈ D, sLt d.key p.key = true) ∧ (∀ x ∈ l, sLt p.key x.key = true) ∧ Rising (D ++ l) := by
  unfold Rising at *
  rw [List.pairwise_append] at h ⊢
  obtain ⟨h1, h2, h3⟩ := h
  obtain ⟨h4, h5⟩ := List.pairwise_cons.1 h2
  exact ⟨fun d hd => h3 d hd p (by simp), h4, h1, h5, fun d hd x hx => h3 d hd x (by simp [hx])⟩

theorem diff_makes : ∀ (n : Nat) (A B D : List Pr), A.length + B.length ≤ n → Rising (D ++ A) → Rising (D ++ B) → doAll (D ++ A) ((diffN n A B).map opOfD) = D ++ B
  | 0, A, B, D, hn, _, _ => by
    have ha : A = [] := List.eq_nil_of_length_eq_zero (by omega)
    have hb : B = [] := List.eq_nil_of_length_eq_zero (by omega)
    rw [ha, hb]; rfl
  | n + 1, [], [], D, hn, _, _ => by rw [diffN, if_pos ⟨rfl, rfl⟩]; rfl
  | n + 1, p :: A, [], D, hn, hA, hB => by
    obtain ⟨a1, a2, a3⟩ := rising_split hA
    have e : diffN (n + 1) (p :: A) [] = ⟨p.key, true, false, p.val, []⟩ :: diffN n A [] := by rw [diffN, if_neg (by simp)]; rfl
    rw [e, List.map_cons]
    show doAll (doOne (D ++ p :: A) ⟨p.key, [], true⟩) _ = _
    rw [show D ++ p :: A = D ++ ([p] ++ A) from rfl, doOne_at (o := ⟨p.key, [], true⟩) a1 a2 (fun m hm => by simp at hm; rw [hm])]
    exact diff_makes n A [] D (by simp at hn ⊢; omega) a3 hB
  | n + 1, [], q :: B, D, hn, hA, hB => by
    obtain ⟨b1, b2, b3⟩ := rising_split hB
    have e : diffN (n + 1) [] (q :: B) = ⟨q.key, false, true, [], q.val⟩ :: diffN n [] B := by rw [diffN, if_neg (by simp)]; rfl
    rw [e, List.map_cons]
    show doAll (doOne (D ++ []) ⟨q.key, q.val, false⟩) _ = _
    rw [show D ++ [] = D ++ (([] : List Pr) ++ []) from rfl, doOne_at (o := ⟨q.key, q.val, false⟩) b1 (by simp) (by simp)]
    have hB' : Rising ((D ++ [q]) ++ B) := by rw [List.append_assoc]; exact hB
    have hA' : Rising ((D ++ [q]) ++ []) := by
      rw [List.append_nil]
      unfold Rising at *
      rw [List.pairwise_append] at hB' ⊢
      exact List.pairwise_append.1 hB'.1
    have := diff_makes n [] B (D ++ [q]) (by simp at hn ⊢; omega) hA' hB'
    rw [List.append_assoc, List.append_assoc] at this
    exact this
  | n + 1, p :: A, q :: B, D, hn, hA, hB => by
    obtain ⟨a1, a2, a3⟩ := rising_split hA
    obtain ⟨b1, b2, b3⟩ := rising_split hB
    have hB' : Rising ((D ++ [q]) ++ B) := by rw [List.append_assoc]; exact hB
    have hDq : Rising (D ++ [q]) := by unfold Rising at *; exact (List.pairwise_append.1 hB').1
    have keepA : (∀ x ∈ A, sLt q.key x.key = true) → Rising ((D ++ [q]) ++ A) := fun h => by
      unfold Rising at *
      rw [List.pairwise_append]
      obtain ⟨_, h5, h6⟩ := List.pairwise_append.1 a3
      refine ⟨hDq, h5, fun d hd x hx => ?_⟩
      rcases List.mem_append.1 hd with hd | hd
      · exact h6 d hd x hx
      · simp at hd; rw [hd]; exact h x hx
    rw [diffN, if_neg (by simp)]
    cases h1 : sLt q.key p.key with
    | true =>
      have h2 := sLt_asymm h1
      have e : stepD (p :: A) (q :: B) ++ diffN n (nextA (p :: A) (q :: B)) (nextA (q :: B) (p :: A)) = ⟨q.key, false, true, [], q.val⟩ :: diffN n (p :: A) B := by
        have w1 : wasOf (p :: A) (q :: B) = false := by simp [wasOf, h1]
        have w2 : wasOf (q :: B) (p :: A) = true := by simp [wasOf, h2]
        unfold stepD nextA dOf keepD
        rw [w1, w2]; rfl
      rw [e, List.map_cons]
      show doAll (doOne (D ++ (p :: A)) ⟨q.key, q.val, false⟩) _ = _
      have ab : ∀ x ∈ p :: A, sLt q.key x.key = true := fun x hx => by
        rcases List.mem_cons.1 hx with rfl | hx
        · exact h1
        · exact sLt_trans h1 (a2 x hx)
      rw [show D ++ (p :: A) = D ++ (([] : List Pr) ++ (p :: A)) from rfl, doOne_at (o := ⟨q.key, q.val, false⟩) b1 ab (by simp)]
      have hA' : Rising ((D ++ [q]) ++ (p :: A)) := by
        unfold Rising at *
        rw [List.pairwise_append]
        obtain ⟨_, h5, h6⟩ := List.pairwise_append.1 hA
        refine ⟨hDq, h5, fun d hd x hx => ?_⟩
        rcases List.mem_append.1 hd with hd | hd
        · exact h6 d hd x hx
        · simp at hd; rw [hd]; exact ab x hx
      have := diff_makes n (p :: A) B (D ++ [q]) (by simp at hn ⊢; omega) hA' hB'
      rw [List.append_assoc, List.append_assoc] at this
      exact this
    | false =>
      cases h2 : sLt p.key q.key with
      | true =>
        have e : stepD (p :: A) (q :: B) ++ diffN n (nextA (p :: A) (q :: B)) (nextA (q :: B) (p :: A)) = ⟨p.key, true, false, p.val, []⟩ :: diffN n A (q :: B) := by
          have w1 : wasOf (p :: A) (q :: B) = true := by simp [wasOf, h1]
          have w2 : wasOf (q :: B) (p :: A) = false := by simp [wasOf, h2]
          unfold stepD nextA dOf keepD
          rw [w1, w2]; rfl
        rw [e, List.map_cons]
        show doAll (doOne (D ++ p :: A) ⟨p.key, [], true⟩) _ = _
        rw [show D ++ p :: A = D ++ ([p] ++ A) from rfl, doOne_at (o := ⟨p.key, [], true⟩) a1 a2 (fun m hm => by simp at hm; rw [hm])]
        exact diff_makes n A (q :: B) D (by simp at hn ⊢; omega) a3 hB
      | false =>
        have hk : p.key = q.key := by
          by_cases hk : p.key = q.key
          · exact hk
          · rw [sLt_of_not h2 hk] at h1; cases h1
        have w1 : wasOf (p :: A) (q :: B) = true := by simp [wasOf, h1]
        have w2 : wasOf (q :: B) (p :: A) = true := by simp [wasOf, h2]
        have ab : ∀ x ∈ A, sLt q.key x.key = true := fun x hx => by rw [← hk]; exact a2 x hx
        have fin := diff_makes n A B (D ++ [q]) (by simp at hn ⊢; omega) (keepA ab) hB'
        rw [List.append_assoc, List.append_assoc] at fin
        by_cases hv : p.val = q.val
        · have e : stepD (p :: A) (q :: B) ++ diffN n (nextA (p :: A) (q :: B)) (nextA (q :: B) (p :: A)) = diffN n A B := by
            unfold stepD nextA dOf keepD
            rw [w1, w2]
            simp [hdP, hv]
          have ep : p = q := by cases p; cases q; simp_all
          rw [e, ep]
          exact fin
        · have e : stepD (p :: A) (q :: B) ++ diffN n (nextA (p :: A) (q :: B)) (nextA (q :: B) (p :: A)) = ⟨q.key, true, true, p.val, q.val⟩ :: diffN n A B := by
            unfold stepD nextA dOf keepD
            rw [w1, w2]
            simp [hdP, hv]
          rw [e, List.map_cons]
          show doAll (doOne (D ++ p :: A) ⟨q.key, q.val, false⟩) _ = _
          rw [show D ++ p :: A = D ++ ([p] ++ A) from rfl, doOne_at (o := ⟨q.key, q.val, false⟩) b1 ab (fun m hm => by simp at hm; rw [hm]; exact hk)]
          exact fin

theorem diff_back {A B : List Pr} (rA : Right A) (rB : Right B) : doAll A ((pDiff A B).map opOfD) = B :=
  diff_makes _ A B [] (Nat.le_refl _) (Right.iff.1 rA).2 (Right.iff.1 rB).2
theorem diffN_self : ∀ (n : Nat) (A : List Pr), diffN n A A = []
  | 0, _ => rfl
  | n + 1, [] => by rw [diffN, if_pos ⟨rfl, rfl⟩]
  | n + 1, p :: A => by
    rw [diffN, if_neg (by simp)]
    have w1 : wasOf (p :: A) (p :: A) = true := by simp [wasOf, sLt_irrefl]
    have e : stepD (p :: A) (p :: A) ++ diffN n (nextA (p :: A) (p :: A)) (nextA (p :: A) (p :: A)) = diffN n A A := by
      unfold stepD nextA dOf keepD
      rw [w1]
      simp [hdP]
    rw [e, diffN_self n A]
theorem diff_nil_iff {A B : List Pr} (rA : Right A) (rB : Right B) : pDiff A B = [] ↔ A = B := by
  constructor
  · intro h
    have := diff_back rA rB
    rw [h] at this
    exact this
  · rintro rfl; exact diffN_self _ _

/-- each difference is an operation that may be -/
theorem diff_ok : ∀ (n : Nat) (A B : List Pr), (∀ p ∈ A, pOk p = true) → (∀ p ∈ B, pOk p = true) → ∀ d ∈ diffN n A B, oOk (opOfD d) = true ∧ (d.is = false → d.new = []) ∧ d.new.length ≤ 4096 ∧ d.old.length ≤ 4096
  | 0, _, _, _, _, d, hd => by simp [diffN] at hd
  | n + 1, A, B, hA, hB, d, hd => by
    rw [diffN] at hd
    by_cases h : A = [] ∧ B = []
    · rw [if_pos h] at hd; cases hd
    · rw [if_neg h, List.mem_append] at hd
      have nx : ∀ {X Y : List Pr}, (∀ p ∈ X, pOk p = true) → ∀ p ∈ nextA X Y, pOk p = true := fun {X Y} hX p hp => by
        unfold nextA at hp
        cases hw : wasOf X Y with
        | true => rw [hw] at hp; exact hX p (List.mem_of_mem_tail hp)
        | false => rw [hw] at hp; exact hX p hp
      rcases hd with hd | hd
      · have e : d = dOf A B := by
          unfold stepD at hd
          cases hk : keepD (dOf A B) with
          | true => rw [hk] at hd; simpa using hd
          | false => rw [hk] at hd; simp at hd
        have hdA : wasOf A B = true → pOk (hdP A) = true := fun hw => by obtain ⟨p, l, rfl⟩ := was_ne hw; exact hA p (by simp)
        have hdB : wasOf B A = true → pOk (hdP B) = true := fun hw => by obtain ⟨p, l, rfl⟩ := was_ne hw; exact hB p (by simp)
        rw [e]
        unfold opOfD dOf
        cases w2 : wasOf B A with
        | true =>
          have h2 := hdB w2
          have h2' := h2
          simp only [pOk, Bool.and_eq_true, decide_eq_true_eq] at h2'
          refine ⟨h2, fun h => by simp at h, h2'.2, ?_⟩
          cases w1 : wasOf A B with
          | true =>
            have h1 := hdA w1
            simp only [pOk, Bool.and_eq_true, decide_eq_true_eq] at h1
            exact h1.2
          | false => simp
        | false =>
          have w1 : wasOf A B = true := (was_some h).resolve_right (by rw [w2]; simp)
          have h1 := hdA w1
          have h1' := h1
          simp only [pOk, Bool.and_eq_true, decide_eq_true_eq] at h1'
          rw [w1]
          refine ⟨?_, fun _ => rfl, by simp, h1'.2⟩
          unfold oOk
          simp only [cond_false, cond_true, h1'.1, Bool.true_and, List.length_nil, decide_eq_true_eq]
          omega
      · exact diff_ok n _ _ (nx hA) (nx hB) d hd
theorem pDiffer_ok {A B : List Pr} : ∀ d ∈ pDiffer A B, oOk (opOfD d) = true ∧ (d.is = false → d.new = []) ∧ d.new.length ≤ 4096 ∧ d.old.length ≤ 4096 := by
  intro d hd
  unfold pDiffer at hd
  split at hd
  · rename_i r
    exact diff_ok _ _ _ (Right.iff.1 r.1).1 (Right.iff.1 r.2).1 d hd
  · cases hd
theorem pBatch_one {o : Opn} (h : oOk o = true) (hd : o.del = true → o.val = []) : pBatch [o] = 0 := by
  have h0 := h
  simp only [oOk, Bool.and_eq_true, decide_eq_true_eq] at h
  have hk := pMay_size h.1
  unfold pBatch
  have b1 : [o].any bad1 = false := by
    simp only [List.any_cons, List.any_nil, Bool.or_false]
    unfold bad1
    rw [h.1]
    cases hdd : o.del with
    | false => rfl
    | true => rw [hd hdd]; rfl
  have b2 : [o].any bad2 = false := by
    simp only [List.any_cons, List.any_nil, Bool.or_false]
    unfold bad2
    rw [decide_eq_false_iff_not]; omega
  rw [b1, b2, if_neg (by simp), if_neg]
  rintro (h1 | h1 | h1)
  · simp at h1
  · simp [opSum, opLen] at h1; omega
  · cases h1

/-! ### held against each other, spoiled -/
section
variable {h : Mem}

theorem ct_Diff {c d : Df} {s1 s2 t1 t2 : Sl} {Q : Bool → Mem → Prop} (b1 : BytesSl h s1 c.old) (b2 : BytesSl h s2 c.new) (d1 : BytesSl h t1 d.old) (d2 : BytesSl h t2 d.new) (q : ∀ h', Ext h.size h h' → Q (decide (c = d)) h') :
    CallF PG fn_dunnagehelp_Diff [.agg #[.string c.key, .bool c.was, .bool c.is, sval s1, sval s2], .agg #[.string d.key, .bool d.was, .bool d.is, sval t1, sval t2]] (.one (.leaf .bool)) h Q := by
  refine call_dunnagehelp_Diff (New.go fun h1 _ x1 z1 r1 => New.go fun h2 _ x2 z2 r2 => ?_)
  have r1' : h2[h.size]? = _ := (x2.block _ (by omega)).trans r1
  have x := x1.after x2
  have no : c ≠ d → Q false h2 := fun e => by have := q h2 x; rw [decide_eq_false e] at this; exact this
  refine Ld.key (row_cell r1' rfl) (Ld.key (row_cell r2 rfl) (Br.mk (fun e1 => ?_) fun e1 => no fun e => sEq_false.1 e1 (by rw [e])))
  refine Ld.flag (v := c.was) (by rw [add_off]; exact row_cell r1' rfl) (Ld.flag (v := d.was) (by rw [add_off]; exact row_cell r2 rfl) (Br.mk (fun e2 => ?_) fun e2 => no fun e => by rw [e] at e2; simp at e2))
  refine Ld.flag (v := c.is) (by rw [add_off]; exact row_cell r1' rfl) (Ld.flag (v := d.is) (by rw [add_off]; exact row_cell r2 rfl) (Br.mk (fun e3 => ?_) fun e3 => no fun e => by rw [e] at e3; simp at e3))
  refine Ld.bytes (v := s1) (by rw [add_off]; exact row_cell r1' rfl) (Ld.bytes (v := t1) (by rw [add_off]; exact row_cell r2 rfl) (ct_Bytes (b1.ext x) (d1.ext x) (Br.mk (fun e4 => ?_) fun e4 => no fun e => by rw [e] at e4; simp at e4)))
  refine Ld.bytes (v := s2) (by rw [add_off]; exact row_cell r1' rfl) (Ld.bytes (v := t2) (by rw [add_off]; exact row_cell r2 rfl) (ct_Bytes (b2.ext x) (d2.ext x) ?_))
  have : decide (c.new = d.new) = decide (c = d) := by
    have k := sEq_iff.1 e1
    simp only [beq_iff_eq] at e2 e3
    simp only [decide_eq_true_eq] at e4
    rw [decide_eq_decide]
    constructor
    · intro e5; cases c; cases d; simp_all
    · rintro rfl; rfl
  rw [this]; exact q _ x

theorem ct_Diffs {B B2 : Nat} {s t : Sl} {l m : List Df} {Q : Bool → Mem → Prop} (a : OwnD h B s l) (b : OwnD h B2 t m) (hl : l.length ≤ 140737488355328) (q : ∀ h', Ext h.size h h' → Q (decide (l = m)) h') :
    CallF PG fn_dunnagehelp_Diffs [sval s, sval t] (.one (.leaf .bool)) h Q := by
  have la := a.len (by decide)
  have lb := b.len (by decide)
  refine call_dunnagehelp_Diffs (call_dunnagehelp_Same_api_Diff_ (Br.mk (fun hne => ?_) fun heq => ?_))
  · have : false = decide (l = m) := by
      symm; rw [decide_eq_false_iff_not]
      rintro rfl
      rw [la, lb] at hne; simp at hne
    rw [this]; exact q _ (Ext.refl _ _)
  · have hlm : l.length = m.length := by
      simp only [bne_eq_false_iff_eq] at heq
      omega
    refine ⟨fun n h' => ∃ i : Nat, n = (i : Int) ∧ i ≤ l.length ∧ l.take i = m.take i ∧ Ext h.size h h', fun n _ => l.length - n.toNat, ⟨0, rfl, Nat.zero_le _, rfl, Ext.refl _ _⟩, ?_⟩
    rintro _ n h1 ⟨i, rfl, hi, he, x⟩
    refine Br.mk (fun h2 => ?_) fun h2 => ?_
    · simp only [decide_eq_true_eq] at h2
      rw [la] at h2
      obtain ⟨p, hp⟩ : ∃ p, l[i]? = some p := ⟨_, List.getElem?_eq_getElem (by omega)⟩
      obtain ⟨p', hp'⟩ : ∃ p, m[i]? = some p := ⟨_, List.getElem?_eq_getElem (by omega)⟩
      obtain ⟨ad, cs, ha, hc, ⟨v, w, rfl, ov, ow⟩, _⟩ := (a.ext EDf.stab x).get (by decide) hp
      obtain ⟨ad', cs', ha', hc', ⟨v', w', rfl, ov', ow'⟩, _⟩ := (b.ext EDf.stab x).get (by decide) hp'
      refine Idx.mk ha (by omega) ?_
      rw [nat_mul]
      refine Ld.diff hc (Idx.mk ha' (by omega) ?_)
      refine Ld.diff hc' (callV_fn (ct_Diff (OwnB.bytes ov) (OwnB.bytes ow) (OwnB.bytes ov') (OwnB.bytes ow') fun h3 x3 => Br.mk (fun h4 => ?_) fun h4 => ?_))
      · have : false = decide (l = m) := by
          symm; rw [decide_eq_false_iff_not]
          rintro rfl
          rw [hp] at hp'; cases hp'
          simp at h4
        rw [this]; exact q _ (x.trans (x3.less x.size))
      · simp only [Bool.not_eq_false', decide_eq_true_eq] at h4
        rw [wrap_succ (by omega)]
        exact ⟨⟨i + 1, rfl, by omega, take_eq_succ hp hp' he h4, x.trans (x3.less x.size)⟩, by simp only [Int.toNat_natCast]; omega⟩
    · simp only [decide_eq_false_iff_not] at h2
      rw [la] at h2
      have hi' : i = l.length := by omega
      have : true = decide (l = m) := by
        symm; rw [decide_eq_true_eq]
        rw [hi', List.take_length, hlm, List.take_length] at he
        exact he
      rw [this]; exact q _ x

def SpoilD (h : Mem) (B : Nat) (s : Sl) (n : Nat) : Prop := ∀ i, i < n → ∃ a v w, s.a = some a ∧ cellAt h ((a.add (i * 5)).add 3) = some (sval v) ∧ cellAt h ((a.add (i * 5)).add 4) = some (sval w) ∧ SomeB h B ty_uint8 v ∧ SomeB h B ty_uint8 w ∧ v.len ≤ 140737488355328 ∧ w.len ≤ 140737488355328
theorem SpoilD.spoilt {h h' : Mem} {B B0 : Nat} {s : Sl} {n : Nat} (x : SpoilD h B s n) (y : Spoilt B0 h h') : SpoilD h' B s n := fun i hi =>
  let ⟨a, v, w, h1, h2, h3, h4, h5, h6⟩ := x i hi; ⟨a, v, w, h1, y.cell h2 fun b => by unfold bcell; simp, y.cell h3 fun b => by unfold bcell; simp, y.someB h4, y.someB h5, h6⟩
theorem OwnL.spoilD {B : Nat} {s : Sl} {l : List Df} (o : OwnD h B s l) (hs : ∀ d ∈ l, d.new.length ≤ 4096 ∧ d.old.length ≤ 4096) : SpoilD h B s l.length := fun i hi => by
  obtain ⟨p, hp⟩ : ∃ p, l[i]? = some p := ⟨_, List.getElem?_eq_getElem hi⟩
  obtain ⟨a, cs, ha, hc, ⟨v, w, rfl, ov, ow⟩, _⟩ := o.get (by decide) hp
  have := hs p (List.mem_of_getElem? hp)
  exact ⟨a, v, w, ha, hc 3 _ rfl, hc 4 _ rfl, ⟨_, ov⟩, ⟨_, ow⟩, by rw [OwnB.len ov]; omega, by rw [OwnB.len ow]; omega⟩
theorem spoil_diffs {B : Nat} {s : Sl} {n : Nat} (o : SpoilD h B s n) (hlen : s.len = n) (hl : n ≤ 140737488355328) {K : Mem → Prop} (k : ∀ h', Spoilt B h h' → K h') :
    ∃ (I13 : Int → Mem → Prop), ∃ (I14 : Int → Mem → Nat), I13 0 h ∧ ∀ (j15 : Fr) (n16 : Int) (h17 : Mem), I13 n16 h17 →
      Br (decide (n16 < (↑s.len : Int)))
        (Idx s.a s.len n16 fun (p18 : Addr) =>
          Ld PG ty_sl_uint8 ((p18.add (n16.toNat * 5)).add 3) (Kd.one (Cmp.leaf Leaf.sl)) h17 fun (s19 : Sl) =>
            CallF PG fn_dunnagehelp_Spoil [Value.slice s19.a s19.len s19.cap] (Kd.tup []) h17 fun (h20 : Mem) =>
              Idx s.a s.len n16 fun (p21 : Addr) =>
                Ld PG ty_sl_uint8 ((p21.add (n16.toNat * 5)).add 4) (Kd.one (Cmp.leaf Leaf.sl)) h20 fun (s22 : Sl) =>
                  CallF PG fn_dunnagehelp_Spoil [Value.slice s22.a s22.len s22.cap] (Kd.tup []) h20 fun (h23 : Mem) =>
                    I13 (IntKind.i64.wrap (n16 + 1)) h23 ∧ I14 (IntKind.i64.wrap (n16 + 1)) h23 < I14 n16 h17)
        (K h17) := by
  refine ⟨fun m h' => ∃ i : Nat, m = (i : Int) ∧ i ≤ n ∧ Spoilt B h h', fun m _ => n - m.toNat, ⟨0, rfl, Nat.zero_le _, Spoilt.refl _ _⟩, ?_⟩
  rintro _ m h1 ⟨i, rfl, hi, x⟩
  refine Br.mk (fun h2 => ?_) fun _ => k _ x
  simp only [decide_eq_true_eq] at h2
  rw [hlen] at h2
  obtain ⟨a, v, w, ha, hc, _, hv, _, hvl, _⟩ := (o.spoilt x) i (by omega)
  refine Idx.mk ha (by omega) ?_
  rw [nat_mul]
  refine Ld.bytes (v := v) hc (ct_Spoil hv hvl fun h3 x3 => ?_)
  obtain ⟨a', v', w', ha', _, hc', _, hw, _, hwl⟩ := (o.spoilt (x.trans x3)) i (by omega)
  refine Idx.mk ha' (by omega) ?_
  refine Ld.bytes (v := w') hc' (ct_Spoil hw hwl fun h4 x4 => ?_)
  rw [wrap_succ (by omega)]
  exact ⟨⟨i + 1, rfl, by omega, (x.trans x3).trans x4⟩, by simp only [Int.toNat_natCast]; omega⟩

theorem OwnP.le {B : Nat} {s : Sl} {l : List Pr} (x : OwnP h B s l) : s.len ≤ s.cap := by obtain ⟨_, oo, _⟩ := x; exact Owns.le oo

/-! ### the laws -/

theorem law_PlainDiffers {sa sb : Sl} {A B : List Pr} {Q : Bool → Mem → Prop} (a : PairsIn h sa A ∧ sa.len ≤ 1048576) (b : PairsIn h sb B ∧ sb.len ≤ 1048576) (q : ∀ h', Ext h.size h h' → Q true h') : wp_dunnagelaw11_PlainDiffers sa sb h Q := by
  obtain ⟨a, hA⟩ := a
  obtain ⟨b, hB⟩ := b
  rw [a.at_.len] at hA
  rw [b.at_.len] at hB
  have dl := pDiffer_length A B
  refine ct_CopyPairs a.at_ a.short (by omega) fun s1 h2 x2 o1 => ct_CopyPairs (b.at_.ext x2) b.short (by omega) fun s3 h4 x4 o3 => ?_
  have x04 := x2.after x4
  refine ct_plain_Differ (o1.ext x4).pairs o3.pairs (o1.ext x4).le o3.le (by omega) fun s5 h6 x6 o5 => ct_awake11 fun h8 x8 => ?_
  have x48 := x6.after x8
  refine ⟨fun c h' => c = false ∧ Ext h8.size h8 h', ?_, Br.f rfl (ct_ref_Differ (a.at_.ext (x04.after x48)) (b.at_.ext (x04.after x48)) (by omega) fun s28 h29 x29 o28 => ct_Diffs (o5.ext EDf.stab (x8.after x29)) o28 (by omega) fun h31 x31 => ⟨by simp, x29.after x31⟩)⟩
  rintro _ c h12 ⟨rfl, x12⟩
  have x412 := x48.after x12
  have hok := pDiffer_ok (A := A) (B := B)
  have y5 : SpoilD h12 h4.size s5 (pDiffer A B).length := (o5.ext EDf.stab (x8.after x12)).spoilD fun d hd => ⟨(hok d hd).2.2.1, (hok d hd).2.2.2⟩
  refine Br.f rfl (spoil_diffs y5 (o5.len (by decide)) (by omega) fun h17 x17 => ?_)
  have x417 : Ext h4.size h4 h17 := x412.trans x17.ext
  refine ct_Pairs (o1.ext (x4.after x417)).pairs (a.at_.ext (x04.after x417)) (by omega) fun h25 x25 => Br.t (by simp) (ct_Pairs (o3.ext (x417.after x25)).pairs (b.at_.ext (x04.after (x417.after x25))) (by omega) fun h27 x27 => ?_)
  rw [decide_eq_true rfl]
  exact q _ (x04.after (x417.after (x25.after x27)))

theorem law_PlainBack {sa sb : Sl} {A B : List Pr} {Q : Bool → Mem → Prop} (a : PairsIn h sa A ∧ sa.len ≤ 1048576) (b : PairsIn h sb B ∧ sb.len ≤ 1048576) (q : ∀ h', Ext h.size h h' → Q true h') : wp_dunnagelaw11_PlainBack sa sb h Q := by
  obtain ⟨a, hA⟩ := a
  obtain ⟨b, hB⟩ := b
  rw [a.at_.len] at hA
  rw [b.at_.len] at hB
  have dl := pDiffer_length A B
  refine ct_plain_Differ a.at_ b.at_ a.le b.le (by omega) fun s1 h2 x2 o1 => ct_awake11 fun h4 x4 => ?_
  have x04 := x2.after x4
  have l1 := o1.len (by decide)
  refine ⟨fun c h' => c = !decide (Right A) ∧ Ext h4.size h4 h', ?_, Br.f rfl (ct_plain_Check (a.at_.ext x04) (by omega) (fun r h37 x37 => ⟨by simp [r], x37⟩) fun r h37 x37 => ⟨by simp [r], x37⟩)⟩
  rintro _ c h8 ⟨rfl, x8⟩
  have x48 := x4.after x8
  have x08 := x2.after x48
  refine ⟨fun c h' => c = !decide (Right A ∧ Right B) ∧ Ext h8.size h8 h', ?_, ?_⟩
  rotate_left
  · refine Br.mk (fun e => ⟨?_, Ext.refl _ _⟩) fun e => ct_plain_Check (b.at_.ext x08) (by omega) (fun r h37 x37 => ⟨?_, x37⟩) fun r h37 x37 => ⟨?_, x37⟩
    · have : ¬ Right A := by simpa using e
      simp [this]
    · have : Right A := by simpa using e
      simp [this, r]
    · simp [r]
  rintro _ c h12 ⟨rfl, x12⟩
  have x212 := x48.after x12
  have x012 := x08.after x12
  refine Br.mk (fun e => ct_awake11 fun h14 x14 => ?_) fun e => ?_
  · refine ⟨fun c h' => c = true ∧ h' = h14, ?_, Br.t rfl ⟨?_, rfl⟩⟩
    · rintro _ c h18 ⟨rfl, rfl⟩
      exact q _ (x012.after x14)
    · have nr : ¬ (Right A ∧ Right B) := fun h0 => by simp [h0] at e
      have : pDiffer A B = [] := if_neg nr
      rw [l1, this]; rfl
  have rr : Right A ∧ Right B := by simpa using e
  have eD : pDiffer A B = pDiff A B := if_pos rr
  have hok := pDiffer_ok (A := A) (B := B)
  rw [eD] at o1 l1 dl hok
  obtain ⟨rA, rB⟩ := rr
  have hback := diff_back rA rB
  have hok' : ∀ o ∈ (pDiff A B).map opOfD, oOk o = true := fun o ho => by
    obtain ⟨d, hd, rfl⟩ := List.mem_map.1 ho
    exact (hok d hd).1
  refine ct_CopyPairs (a.at_.ext x012) a.short (by omega) fun s19 h20 x20 o19 => ?_
  have x220 := x212.after x20
  refine ⟨fun t n H => ∃ i : Nat, n = (i : Int) ∧ i ≤ (pDiff A B).length ∧ Ext h20.size h20 H ∧ OwnP H h12.size t (doAll A (((pDiff A B).map opOfD).take i)), fun _ n _ => (pDiff A B).length - n.toNat, ⟨0, rfl, Nat.zero_le _, Ext.refl _ _, o19⟩, ?_⟩
  rintro _ t n H ⟨i, rfl, hi, x, o⟩
  have x2H := x220.after x
  have hpre : ∀ o ∈ ((pDiff A B).map opOfD).take i, oOk o = true := fun o ho => hok' o (List.mem_of_mem_take ho)
  have rI := rA.doAll hpre
  have lI := doAll_length rA hpre
  rw [List.length_take, List.length_map] at lI
  refine Br.mk (fun h3 => ?_) fun h3 => ?_
  · simp only [decide_eq_true_eq] at h3
    rw [l1] at h3
    obtain ⟨d, hd⟩ : ∃ p, (pDiff A B)[i]? = some p := ⟨_, List.getElem?_eq_getElem (by omega)⟩
    obtain ⟨k1, k2, k3, k4⟩ := hok d (List.mem_of_getElem? hd)
    have hnext : doAll A (((pDiff A B).map opOfD).take (i + 1)) = doOne (doAll A (((pDiff A B).map opOfD).take i)) (opOfD d) := by
      rw [List.take_add_one, List.getElem?_map, hd, ← doAll_snoc]; rfl
    generalize doAll A (((pDiff A B).map opOfD).take i) = m at rI lI hnext o
    obtain ⟨ad, cs, ha, hc, ⟨v, w, rfl, ov, ow⟩, _⟩ := (o1.ext EDf.stab x2H).get (by decide) hd
    have c0 : cellAt H (ad.add (i * 5)) = some (.string d.key) := hc 0 _ rfl
    have c4 : cellAt H ((ad.add (i * 5)).add 4) = some (sval w) := hc 4 _ rfl
    have c2 : cellAt H ((ad.add (i * 5)).add 2) = some (.bool d.is) := hc 2 _ rfl
    have ix : ∀ {K : Addr → Prop}, K ad → Idx s1.a s1.len (i : Int) K := fun kk => Idx.mk ha (by omega) kk
    refine ix ?_
    rw [nat_mul]
    refine Ld.key c0 (ix (Ld.bytes c4 (ix (Ld.flag c2 (New.go fun h34 _ x34 z34 r34 => ⟨Ld.flag (x34.cellAt (cellAt_lt c2) c2) rfl, Ld.bytes (x34.cellAt (cellAt_lt c4) c4) rfl, Ld.key (x34.cellAt (cellAt_lt c0) c0) rfl, St.op (v0 := ⟨none, 0, 0⟩) r34 fun h38 u38 r38 => Ld.op (Cells.whole r38) (New.go fun h43 _ x43 z43 r43 => ?_)⟩)))))
    have xH43 : Ext H.size H h43 := (x34.trans (u38.ext (Nat.le_refl _))).after x43
    have oo : OpsAt h43 ⟨some ⟨h38.size, 0, none⟩, 1, 1⟩ [opOfD d] := ⟨rfl, fun j b hb => by
      match j, hb with
      | 0, hb => cases hb; exact ⟨_, rfl, w, Cells.whole r43, (OwnB.bytes ow).ext xH43⟩
      | j + 1, hb => simp at hb, fun hn => by cases hn⟩
    refine ct_plain_Do (o.ext xH43).pairs oo (by omega) (by simp) (fun j b hb => ?_) fun s44 h46 x46 o46 => ?_
    · match j, hb with
      | 0, hb =>
        cases hb
        have hk := k1
        simp only [oOk, Bool.and_eq_true, decide_eq_true_eq] at hk
        have := pMay_size hk.1
        unfold opLen; omega
      | j + 1, hb => simp at hb
    · have e0 : pErr m [opOfD d] = 0 := by
        unfold pErr
        rw [if_pos rI]
        exact pBatch_one k1 fun h0 => k2 (by simpa [opOfD] using h0)
      have eo : pDo m [opOfD d] = doOne m (opOfD d) := by unfold pDo; rw [if_pos e0]; rfl
      rw [e0]
      rw [eo, ← hnext] at o46
      refine Br.f rfl ?_
      rw [wrap_succ (by omega)]
      exact ⟨⟨i + 1, rfl, by omega, x.after (xH43.after x46), o46.base (Nat.le_trans x20.size (Nat.le_trans x.size xH43.size))⟩, by simp only [Int.toNat_natCast]; omega⟩
  · simp only [decide_eq_false_iff_not] at h3
    rw [l1] at h3
    have ei : i = (pDiff A B).length := by omega
    rw [ei, ← List.length_map (f := opOfD), List.take_length, hback] at o
    have x0H := x2.after x2H
    refine ct_Pairs o.pairs (b.at_.ext x0H) (by omega) fun h48 x48 => Br.t (by simp) (ct_Pairs (a.at_.ext (x0H.after x48)) (b.at_.ext (x0H.after x48)) (by omega) fun h50 x50 => Br.t ?_ ?_)
    · rw [l1, beq_iff_eq, Bool.eq_iff_iff, decide_eq_true_eq, ← diff_nil_iff rA rB]
      constructor
      · intro h0
        simp only [beq_iff_eq] at h0
        exact List.eq_nil_of_length_eq_zero (by omega)
      · intro h0; rw [h0]; rfl
    · have x050 := (x0H.after x48).after x50
      refine ct_plain_Differ (a.at_.ext x050) (a.at_.ext x050) a.le a.le (by omega) fun s51 h52 x52 o51 => ?_
      have : pDiffer A A = [] := by
        unfold pDiffer
        split
        · exact diffN_self _ _
        · rfl
      rw [this] at o51
      have e : ((s51.len : Int) == 0) = true := by rw [o51.len (by decide)]; rfl
      rw [e]
      exact q _ (x050.after x52)
end
end Go.Dn.W
