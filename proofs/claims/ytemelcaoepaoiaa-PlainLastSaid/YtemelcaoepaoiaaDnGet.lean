/- A key's value; the pairs of a range. -/
import Derived.Test.YtemelcaoepaoiaaDnOpl
set_option linter.unusedVariables false
namespace Go.Dn.W
open Go Go.Dn Go.Proofs

def findP (l : List Pr) (key : ByteArray) : Option (List UInt8) := (l.find? fun p => decide (p.key = key)).map (·.val)
/-- a key's value, if the pairs are in order and have it -/
def pGet (l : List Pr) (key : ByteArray) : Option (List UInt8) := if Right l then findP l key else none

theorem Right.uniq {l : List Pr} (r : Right l) {i j : Nat} {p q : Pr} (hp : l[i]? = some p) (hq : l[j]? = some q) (hk : p.key = q.key) : i = j := by
  rcases Nat.lt_trichotomy i j with h | h | h
  · have := r.lt h hp hq; rw [hk, sLt_irrefl] at this; cases this
  · exact h
  · have := r.lt h hq hp; rw [hk, sLt_irrefl] at this; cases this
theorem findP_some {l : List Pr} (r : Right l) {i : Nat} {p : Pr} (hp : l[i]? = some p) : findP l p.key = some p.val := by
  unfold findP
  cases h : l.find? fun q => decide (q.key = p.key) with
  | none =>
    have := List.find?_eq_none.1 h p (List.mem_of_getElem? hp)
    simp at this
  | some q =>
    have h1 := List.find?_some h
    simp only [decide_eq_true_eq] at h1
    obtain ⟨j, hj⟩ := List.getElem?_of_mem (List.mem_of_find?_eq_some h)
    have e := r.uniq hj hp h1
    subst e
    rw [hp] at hj; cases hj
    rfl
theorem findP_none {l : List Pr} {key : ByteArray} (h : ∀ p ∈ l, p.key ≠ key) : findP l key = none := by
  unfold findP
  rw [List.find?_eq_none.2 fun p hp => by simp [h p hp]]
  rfl
theorem findP_iff {l : List Pr} (r : Right l) {key : ByteArray} {v : List UInt8} : findP l key = some v ↔ ⟨key, v⟩ ∈ l := by
  constructor
  · intro h
    unfold findP at h
    cases h1 : l.find? fun q => decide (q.key = key) with
    | none => rw [h1] at h; cases h
    | some q =>
      rw [h1] at h
      cases h
      have h2 := List.find?_some h1
      simp only [decide_eq_true_eq] at h2
      rw [← h2]
      exact List.mem_of_find?_eq_some h1
  · intro h
    obtain ⟨i, hi⟩ := List.getElem?_of_mem h
    exact findP_some r hi

section
variable {h : Mem}

theorem ct_plain_Get {s : Sl} {l : List Pr} {key : ByteArray} {Q : Sl → Bool → Mem → Prop} (a : PairsAt h s l) (hl : l.length ≤ 140737488355328)
    (q : ∀ s' h', Ext h.size h h' → OwnB h' h.size ty_uint8 s' ((pGet l key).getD []) → Q s' (pGet l key).isSome h') : CallF PG fn_plain_Get [sval s, .string key] (.tup [.leaf .sl, .leaf .bool]) h Q := by
  have none' : pGet l key = none → ∀ h', Ext h.size h h' → Q ⟨none, 0, 0⟩ false h' := fun e h' x => by
    have := q ⟨none, 0, 0⟩ h' x (by rw [e]; exact Owns.nil _ _ _ _)
    rw [e] at this; exact this
  refine call_plain_Get (ct_plain_Check a hl (fun r h1 x1 => Br.f rfl ?_) fun nr h1 x1 => Br.t rfl (none' (if_neg nr) h1 x1))
  have e : pGet l key = findP l key := if_pos r
  refine ct_place (a.ext x1) r hl fun n is h2 x2 pl his => ?_
  have x02 := x1.after x2
  cases is with
  | false =>
    refine Br.t rfl (none' ?_ h2 x02)
    rw [e]
    refine findP_none fun p hp hk => ?_
    obtain ⟨j, hj⟩ := List.getElem?_of_mem hp
    have hj1 := pl.below j p
    have hj2 := pl.above j p
    have : n ≤ j := by
      rcases Nat.lt_or_ge j n with h' | h'
      · have := hj1 h' hj; rw [hk, sLt_irrefl] at this; cases this
      · exact h'
    rcases Nat.lt_or_ge n j with h' | h'
    · obtain ⟨q', hq'⟩ : ∃ q, l[n]? = some q := ⟨_, List.getElem?_eq_getElem (by have := (List.getElem?_eq_some_iff.1 hj).1; omega)⟩
      have h3 := r.lt h' hq' hj
      rw [hk, pl.above n q' (Nat.le_refl _) hq'] at h3; cases h3
    · obtain rfl : n = j := by omega
      have := his.2 ⟨p, hj, hk⟩; cases this
  | true =>
    obtain ⟨p, hp, hk⟩ := his.1 rfl
    have hn := (List.getElem?_eq_some_iff.1 hp).1
    obtain ⟨ad, ha, v, hc, hb⟩ := (a.ext x02).at_ n p hp
    refine Br.f rfl (Idx.mk ha (by rw [a.len]; omega) ?_)
    rw [nat_mul]
    refine Ld.bytes (hc 1 _ rfl) (ct_Clone hb (r.short n p hp) fun w h3 x3 ow => ?_)
    have ev : pGet l key = some p.val := by rw [e, ← hk]; exact findP_some r hp
    have := q w h3 (x02.after x3) (by rw [ev]; exact ow.base x02.size)
    rw [ev] at this; exact this

theorem ct_ref_Get {s : Sl} {l : List Pr} {key : ByteArray} {Q : Sl → Bool → Mem → Prop} (a : PairsAt h s l) (hl : l.length ≤ 140737488355328)
    (q : ∀ s' h', Ext h.size h h' → OwnB h' h.size ty_uint8 s' ((pGet l key).getD []) → Q s' (pGet l key).isSome h') : CallF PG fn_dunnageref11_Get [sval s, .string key] (.tup [.leaf .sl, .leaf .bool]) h Q := by
  have none' : pGet l key = none → Q ⟨none, 0, 0⟩ false h := fun e => by
    have := q ⟨none, 0, 0⟩ h (Ext.refl _ _) (by rw [e]; exact Owns.nil _ _ _ _)
    rw [e] at this; exact this
  refine call_dunnageref11_Get (ct_ref_Right a hl (Br.mk (fun nr => none' (if_neg (by simpa using nr))) fun r => ?_))
  have r : Right l := by simpa using r
  have e : pGet l key = findP l key := if_pos r
  refine ⟨fun n h' => ∃ i : Nat, n = (i : Int) ∧ i ≤ l.length ∧ (∀ p ∈ l.take i, p.key ≠ key) ∧ h' = h, fun n _ => l.length - n.toNat, ⟨0, rfl, Nat.zero_le _, by simp, rfl⟩, ?_⟩
  rintro _ n h1 ⟨i, rfl, hi, hn, rfl⟩
  refine Br.mk (fun h2 => ?_) fun h2 => ?_
  · simp only [decide_eq_true_eq] at h2
    rw [a.len] at h2
    obtain ⟨p, hp⟩ : ∃ p, l[i]? = some p := ⟨_, List.getElem?_eq_getElem (by omega)⟩
    obtain ⟨ad, ha, v, hc, hb⟩ := a.at_ i p hp
    refine Idx.mk ha (by rw [a.len]; omega) ?_
    rw [nat_mul]
    refine Ld.key (hc 0 _ rfl) (Br.mk (fun e1 => ?_) fun e1 => ?_)
    · have hk : p.key = key := sEq_iff.1 e1
      refine Idx.mk ha (by rw [a.len]; omega) (Ld.bytes (hc 1 _ rfl) (ct_CopyBytes hb (r.short i p hp) fun w h3 x3 ow => ?_))
      have ev : pGet l key = some p.val := by rw [e, ← hk]; exact findP_some r hp
      have := q w h3 x3 (by rw [ev]; exact ow)
      rw [ev] at this; exact this
    · have hk : p.key ≠ key := sEq_false.1 e1
      rw [wrap_succ (by omega)]
      refine ⟨⟨i + 1, rfl, by omega, fun q' hq' => ?_, rfl⟩, by simp only [Int.toNat_natCast]; omega⟩
      rw [List.take_add_one, hp] at hq'
      rcases List.mem_append.1 hq' with h' | h'
      · exact hn q' h'
      · simp at h'; rw [h']; exact hk
  · simp only [decide_eq_false_iff_not] at h2
    rw [a.len] at h2
    have ei : i = l.length := by omega
    rw [ei, List.take_length] at hn
    exact none' (by rw [e]; exact findP_none hn)

/-! ### ranges -/

def within (lo hi : ByteArray) (p : Pr) : Bool := pWithin lo hi p.key
def scanOf (l : List Pr) (lo hi : ByteArray) (most : Int) : List Pr := (l.filter (within lo hi)).take most.toNat
/-- the first pairs of a range -/
def pScan (l : List Pr) (lo hi : ByteArray) (most : Int) : List Pr := if Right l then scanOf l lo hi most else []

theorem scan_full {l : List Pr} {lo hi : ByteArray} {most : Int} {p : Pr} (h : ¬ ((scanOf l lo hi most).length : Int) < most) : scanOf (l ++ [p]) lo hi most = scanOf l lo hi most := by
  unfold scanOf at *
  rw [List.filter_append]
  rw [List.length_take] at h
  have : most.toNat ≤ (l.filter (within lo hi)).length := by omega
  rw [List.take_append_of_le_length this]
theorem scan_room {l : List Pr} {lo hi : ByteArray} {most : Int} {p : Pr} (h : ((scanOf l lo hi most).length : Int) < most) : scanOf (l ++ [p]) lo hi most = scanOf l lo hi most ++ (if within lo hi p then [p] else []) := by
  unfold scanOf at *
  rw [List.filter_append]
  rw [List.length_take] at h
  have h1 : (l.filter (within lo hi)).length < most.toNat := by omega
  have e : [p].filter (within lo hi) = if within lo hi p then [p] else [] := by rw [List.filter_cons]; rfl
  rw [e, List.take_append, List.take_of_length_le (Nat.le_of_lt h1), List.take_of_length_le (l := if within lo hi p = true then [p] else [])]
  split <;> simp <;> omega
theorem scan_le (l : List Pr) (lo hi : ByteArray) (most : Int) : (scanOf l lo hi most).length ≤ l.length := by
  unfold scanOf
  rw [List.length_take]
  have := List.length_filter_le (within lo hi) l
  omega
theorem scan_stay {l m : List Pr} {lo hi : ByteArray} {most : Int} (h : ¬ ((scanOf l lo hi most).length : Int) < most) : scanOf (l ++ m) lo hi most = scanOf l lo hi most := by
  unfold scanOf at *
  rw [List.filter_append]
  rw [List.length_take] at h
  have : most.toNat ≤ (l.filter (within lo hi)).length := by omega
  rw [List.take_append_of_le_length this]

theorem ct_plain_Scan {s : Sl} {l : List Pr} {lo hi : ByteArray} {most : Int} {Q : Sl → Mem → Prop} (a : PairsAt h s l) (hl : l.length * 40 ≤ 140737488355328)
    (q : ∀ s' h', Ext h.size h h' → OwnP h' h.size s' (pScan l lo hi most) → Q s' h') : CallF PG fn_plain_Scan [sval s, .string lo, .string hi, .int .i64 most] (.one (.leaf .sl)) h Q := by
  refine call_plain_Scan (ct_plain_Check a (by omega) (fun r h1 x1 => Br.f rfl ?_) fun nr h1 x1 => Br.t rfl (q _ h1 x1 ?_))
  rotate_left
  · unfold pScan; rw [if_neg nr]; exact OwnP.nil _ _
  have e : pScan l lo hi most = scanOf l lo hi most := if_pos r
  rw [e] at q
  refine ⟨fun t n h' => ∃ i : Nat, n = (i : Int) ∧ i ≤ l.length ∧ Ext h.size h h' ∧ OwnP h' h.size t (scanOf (l.take i) lo hi most), fun _ n _ => l.length - n.toNat, ⟨0, rfl, Nat.zero_le _, x1, by simp only [List.take_zero, scanOf, List.filter_nil, List.take_nil]; exact OwnP.nil _ _⟩, ?_⟩
  rintro _ out n h2 ⟨i, rfl, hi', x, o⟩
  refine Br.mk (fun h3 => ?_) fun h3 => ?_
  · simp only [decide_eq_true_eq] at h3
    rw [a.len] at h3
    obtain ⟨p, hp⟩ : ∃ p, l[i]? = some p := ⟨_, List.getElem?_eq_getElem (by omega)⟩
    obtain ⟨ad, ha, v, hc, hb⟩ := (a.ext x).at_ i p hp
    have hnext : l.take (i + 1) = l.take i ++ [p] := by rw [List.take_add_one, hp]; rfl
    have hol := o.len
    have hsl := scan_le (l.take i) lo hi most
    rw [List.length_take, Nat.min_eq_left hi'] at hsl
    refine Idx.mk ha (by rw [a.len]; omega) ?_
    rw [nat_mul]
    refine Ld.pair hc (New.go fun h3 _ x3 z3 r3 => St.pair (v0 := ⟨none, 0, 0⟩) r3 fun h4 u4 r4 => ?_)
    have x4 : Ext h2.size h2 h4 := x3.trans (u4.ext (Nat.le_refl _))
    have x04 := x.after x4
    have step : ∀ s' h', Ext h.size h h' → OwnP h' h.size s' (scanOf (l.take (i + 1)) lo hi most) → (∃ k : Nat, IntKind.i64.wrap ((i : Int) + 1) = (k : Int) ∧ k ≤ l.length ∧ Ext h.size h h' ∧ OwnP h' h.size s' (scanOf (l.take k) lo hi most)) ∧ l.length - (IntKind.i64.wrap ((i : Int) + 1)).toNat < l.length - (i : Int).toNat := by
      intro s' h' x' o'
      rw [wrap_succ (by omega)]
      exact ⟨⟨i + 1, rfl, by omega, x', o'⟩, by simp only [Int.toNat_natCast]; omega⟩
    refine Br.mk (fun h5 => ?_) fun h5 => ?_
    · simp only [decide_eq_true_eq] at h5
      rw [hol] at h5
      refine Ld.key (row_cell r4 rfl) (ct_Within (Br.mk (fun h6 => ?_) fun h6 => ?_))
      · refine Ld.pair (Cells.whole r4) (ct_own (hb.ext x4) (r.short i p hp) fun w h7 x7 ow => New.go fun h8 _ x8 z8 r8 => ?_)
        have xx : Ext h4.size h4 h8 := x7.after x8
        refine OwnP.push (p := p) (v := w) (Nat.le_trans x04.size xx.size) (o.ext (x4.after xx)) (Cells.whole r8) ((Owns.ext ow x8).base x04.size) (by omega) fun s' h' o' e' g' => step s' h' ((x04.after xx).trans e') ?_
        rw [hnext, scan_room h5, if_pos (show within lo hi p = true from h6)]; exact o'
      · refine step out h4 x04 ?_
        rw [hnext, scan_room h5, if_neg (by unfold within; rw [h6]; simp), List.append_nil]; exact o.ext x4
    · simp only [decide_eq_false_iff_not] at h5
      rw [hol] at h5
      refine step out h4 x04 ?_
      rw [hnext, scan_full h5]; exact o.ext x4
  · simp only [decide_eq_false_iff_not] at h3
    rw [a.len] at h3
    have : i = l.length := by omega
    rw [this, List.take_length] at o
    exact q out h2 x o

theorem ct_ref_Scan {s : Sl} {l : List Pr} {lo hi : ByteArray} {most : Int} {Q : Sl → Mem → Prop} (a : PairsAt h s l) (hl : l.length * 40 ≤ 140737488355328)
    (q : ∀ s' h', Ext h.size h h' → OwnP h' h.size s' (pScan l lo hi most) → Q s' h') : CallF PG fn_dunnageref11_Scan [sval s, .string lo, .string hi, .int .i64 most] (.one (.leaf .sl)) h Q := by
  refine call_dunnageref11_Scan ?_
  refine ⟨fun t n h' => ∃ i : Nat, n = (i : Int) ∧ (i ≠ 0 → Right l) ∧ i ≤ l.length ∧ Ext h.size h h' ∧ OwnP h' h.size t (scanOf (l.take i) lo hi most), fun _ n _ => l.length - n.toNat, ⟨0, rfl, fun h => absurd rfl h, Nat.zero_le _, Ext.refl _ _, by simp only [List.take_zero, scanOf, List.filter_nil, List.take_nil]; exact OwnP.nil _ _⟩, ?_⟩
  rintro _ out n h2 ⟨i, rfl, hr, hi', x, o⟩
  refine ct_ref_Right (a.ext x) (by omega) ?_
  refine ⟨fun c h' => c = (decide (Right l) && decide (i < l.length)) ∧ h' = h2, ?_, ?_⟩
  rotate_left
  · refine Br.mk (fun hR => ⟨?_, rfl⟩) fun hR => ⟨?_, rfl⟩
    · rw [hR, Bool.true_and, a.len, decide_eq_decide]; omega
    · rw [hR, Bool.false_and]
  rintro _ c h3 ⟨rfl, rfl⟩
  refine Br.mk (fun hc => ?_) fun hc => ?_
  · simp only [Bool.and_eq_true, decide_eq_true_eq] at hc
    obtain ⟨r, hlt⟩ := hc
    have e : pScan l lo hi most = scanOf l lo hi most := if_pos r
    rw [e] at q
    obtain ⟨p, hp⟩ : ∃ p, l[i]? = some p := ⟨_, List.getElem?_eq_getElem (by omega)⟩
    obtain ⟨ad, ha, v, hc, hb⟩ := (a.ext x).at_ i p hp
    have hnext : l.take (i + 1) = l.take i ++ [p] := by rw [List.take_add_one, hp]; rfl
    have hol := o.len
    have hsl := scan_le (l.take i) lo hi most
    rw [List.length_take, Nat.min_eq_left hi'] at hsl
    have ix : ∀ K, K ad → Idx s.a s.len (i : Int) K := fun K k => Idx.mk ha (by rw [a.len]; omega) k
    have hk0 : cellAt h3 (ad.add (i * 2)) = some (.string p.key) := hc 0 _ rfl
    have step : ∀ s' h', Ext h.size h h' → OwnP h' h.size s' (scanOf (l.take (i + 1)) lo hi most) → (∃ k : Nat, IntKind.i64.wrap ((i : Int) + 1) = (k : Int) ∧ (k ≠ 0 → Right l) ∧ k ≤ l.length ∧ Ext h.size h h' ∧ OwnP h' h.size s' (scanOf (l.take k) lo hi most)) ∧ l.length - (IntKind.i64.wrap ((i : Int) + 1)).toNat < l.length - (i : Int).toNat := by
      intro s' h' x' o'
      rw [wrap_succ (by omega)]
      exact ⟨⟨i + 1, rfl, fun _ => r, by omega, x', o'⟩, by simp only [Int.toNat_natCast]; omega⟩
    refine Br.mk (fun h5 => ?_) fun h5 => ?_
    · simp only [decide_eq_true_eq] at h5
      rw [hol] at h5
      refine ix _ ?_
      rw [nat_mul]
      refine Ld.key hk0 (ct_ref_Within (by have := r.key hp; omega) (Br.mk (fun h6 => ?_) fun h6 => ?_))
      · refine ix _ (Ld.key hk0 (ix _ (Ld.bytes (hc 1 _ rfl) (ct_CopyBytes hb (r.short i p hp) fun w h7 x7 ow => ⟨Ld.key (x7.cellAt (cellAt_lt hk0) hk0) rfl, New.go fun h8 _ x8 z8 r8 => ?_⟩))))
        have xx : Ext h3.size h3 h8 := x7.after x8
        refine OwnP.push (p := p) (v := w) (Nat.le_trans x.size xx.size) (o.ext xx) (Cells.whole r8) ((Owns.ext ow x8).base x.size) (by omega) fun s' h' o' e' g' => step s' h' ((x.after xx).trans e') ?_
        rw [hnext, scan_room h5, if_pos (show within lo hi p = true from h6)]; exact o'
      · refine step out h3 x ?_
        rw [hnext, scan_room h5, if_neg (by unfold within; rw [h6]; simp), List.append_nil]; exact o
    · simp only [decide_eq_false_iff_not] at h5
      rw [hol] at h5
      refine q out h3 x ?_
      have := scan_stay (m := l.drop i) h5
      rw [List.take_append_drop] at this
      rw [this]; exact o
  · refine q out h3 x ?_
    simp only [Bool.and_eq_false_iff, decide_eq_false_iff_not] at hc
    by_cases r : Right l
    · have : i = l.length := by rcases hc with h' | h' <;> first | exact absurd r h' | omega
      unfold pScan
      rw [if_pos r]
      rw [this, List.take_length] at o
      exact o
    · have : i = 0 := by
        by_cases h0 : i = 0
        · exact h0
        · exact absurd (hr h0) r
      subst this
      unfold pScan
      rw [if_neg r]
      simp only [List.take_zero, scanOf, List.filter_nil, List.take_nil] at o
      exact o
end
end Go.Dn.W
