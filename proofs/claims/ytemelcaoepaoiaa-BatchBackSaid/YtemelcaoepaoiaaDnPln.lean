/- Pairs: copies; whether they are in order. -/
import Derived.Test.YtemelcaoepaoiaaDnPrs
namespace Go.Dn.W
open Go Go.Dn Go.Proofs

section
variable {h : Mem}

/-- all values are short enough to be copied -/
def Short (l : List Pr) : Prop := ∀ (i : Nat) (p : Pr), l[i]? = some p → p.val.length ≤ 140737488355328

theorem ct_CopyPairs {s : Sl} {l : List Pr} {Q : Sl → Mem → Prop} (a : PairsAt h s l) (hs : Short l) (hl : l.length * 40 ≤ 140737488355328) (q : ∀ s' h', Ext h.size h h' → OwnP h' h.size s' l → Q s' h') :
    CallF PG fn_dunnagehelp_CopyPairs [sval s] (.one (.leaf .sl)) h Q := by
  refine call_dunnagehelp_CopyPairs ?_
  refine ⟨fun t n h' => ∃ i : Nat, n = (i : Int) ∧ i ≤ l.length ∧ Ext h.size h h' ∧ OwnP h' h.size t (l.take i), fun _ n _ => l.length - n.toNat, ⟨0, rfl, Nat.zero_le _, Ext.refl _ _, OwnP.nil _ _⟩, ?_⟩
  rintro _ t n h1 ⟨i, rfl, hi, x, o⟩
  refine Br.mk (fun h2 => ?_) fun h2 => ?_
  · simp only [decide_eq_true_eq] at h2
    rw [a.len] at h2
    obtain ⟨p, hp⟩ : ∃ p, l[i]? = some p := ⟨_, List.getElem?_eq_getElem (by omega)⟩
    obtain ⟨ad, ha, v, hc, hb⟩ := (a.ext x).at_ i p hp
    have hk : cellAt h1 (ad.add (i * 2)) = some (.string p.key) := hc 0 _ rfl
    have hv : cellAt h1 ((ad.add (i * 2)).add 1) = some (sval v) := hc 1 _ rfl
    refine Idx.mk ha (by rw [a.len]; omega) ?_
    rw [nat_mul]
    refine Ld.key hk (Idx.mk ha (by rw [a.len]; omega) (Ld.bytes hv (ct_CopyBytes hb (hs i p hp) fun w h3 x3 ow => ⟨Ld.key (x3.cellAt (cellAt_lt hk) hk) rfl, New.go fun h4 _ x4 z4 r4 => ?_⟩)))
    have xx : Ext h1.size h1 h4 := x3.trans (x4.less x3.size)
    have hB : h.size ≤ h4.size := Nat.le_trans x.size xx.size
    refine OwnP.push (p := p) (v := w) hB (o.ext xx) (Cells.whole r4) ((Owns.ext ow x4).base x.size) (by rw [List.length_take, Nat.min_eq_left hi]; omega) fun s' h' o' e' g' => ?_
    rw [wrap_succ (by omega)]
    refine ⟨⟨i + 1, rfl, by omega, x.trans ((xx.less x.size).trans e'), ?_⟩, by simp only [Int.toNat_natCast]; omega⟩
    rw [List.take_add_one, hp]; exact o'
  · simp only [decide_eq_false_iff_not] at h2
    rw [a.len] at h2
    have : i = l.length := by omega
    rw [this, List.take_length] at o
    exact q _ _ x o

/-! ### in order -/

def pOk (p : Pr) : Bool := pMay p.key && decide (p.val.length ≤ 4096)
/-- so many of them are in order -/
def RightTo (l : List Pr) (n : Nat) : Prop := ∀ (i : Nat) (p : Pr), i < n → l[i]? = some p → pOk p = true ∧ ∀ (j : Nat) (q : Pr), i = j + 1 → l[j]? = some q → sLt q.key p.key = true
def Right (l : List Pr) : Prop := RightTo l l.length

theorem Right.short {l : List Pr} (r : Right l) : Short l := fun i p hp => by
  have := (r i p (List.getElem?_eq_some_iff.1 hp).1 hp).1
  simp only [pOk, Bool.and_eq_true, decide_eq_true_eq] at this
  omega

theorem ct_plain_Check {s : Sl} {l : List Pr} {Q : Int → Mem → Prop} (a : PairsAt h s l) (hl : l.length ≤ 140737488355328) (qy : Right l → ∀ h', Ext h.size h h' → Q 0 h') (qn : ¬ Right l → ∀ h', Ext h.size h h' → Q 11 h') :
    CallF PG fn_plain_Check [sval s] (.one (.leaf (.int .i64))) h Q := by
  refine call_plain_Check ?_
  refine ⟨fun n h' => ∃ i : Nat, n = (i : Int) ∧ i ≤ l.length ∧ RightTo l i ∧ Ext h.size h h', fun n _ => l.length - n.toNat, ⟨0, rfl, Nat.zero_le _, fun i p hi => by omega, Ext.refl _ _⟩, ?_⟩
  rintro _ n h1 ⟨i, rfl, hi, hr, x⟩
  refine Br.mk (fun h2 => ?_) fun h2 => ?_
  · simp only [decide_eq_true_eq] at h2
    rw [a.len] at h2
    obtain ⟨p, hp⟩ : ∃ p, l[i]? = some p := ⟨_, List.getElem?_eq_getElem (by omega)⟩
    obtain ⟨ad, ha, v, hc, hb⟩ := (a.ext x).at_ i p hp
    refine Idx.mk ha (by rw [a.len]; omega) ?_
    rw [nat_mul]
    refine Ld.pair hc (New.go fun h3 _ x3 z3 r3 => ?_)
    obtain ⟨d, hd⟩ := und_pair
    refine St.row hd (vs := pcells p.key v) rfl sz_pair (by intro u hu; simp only [pcells, List.mem_cons, List.not_mem_nil, or_false] at hu; rcases hu with rfl | rfl <;> rfl) r3 (Nat.le_refl 2) fun h4 u4 r4 => ?_
    have r4 : h4[h1.size]? = some (.cells #[.string p.key, sval v] ty_api_Pair (0, 0)) := r4
    have x4 : Ext h1.size h1 h4 := x3.trans ((u4.ext (Nat.le_refl _)))
    have xx : Ext h.size h h4 := x.trans (x4.less x.size)
    refine Ld.key (row_cell r4 rfl) (ct_May (Br.mk (fun h5 => ?_) fun h5 => ?_))
    · refine qn (fun r => ?_) _ xx
      have := (r i p (by omega) hp).1
      simp only [pOk, Bool.and_eq_true] at this
      rw [this.1] at h5; cases h5
    · simp only [Bool.not_eq_false'] at h5
      refine Ld.bytes (v := v) (by rw [add_off]; exact row_cell r4 rfl) (Br.mk (fun h6 => ?_) fun h6 => ?_)
      · simp only [decide_eq_true_eq] at h6
        refine qn (fun r => ?_) _ xx
        have := (r i p (by omega) hp).1
        simp only [pOk, Bool.and_eq_true, decide_eq_true_eq] at this
        rw [hb.len] at h6
        omega
      · simp only [decide_eq_false_iff_not] at h6
        rw [hb.len] at h6
        have hok : pOk p = true := by simp only [pOk, Bool.and_eq_true, decide_eq_true_eq]; exact ⟨h5, by omega⟩
        have next : (∀ (j : Nat) (q : Pr), i = j + 1 → l[j]? = some q → sLt q.key p.key = true) → RightTo l (i + 1) := by
          intro hj k r hk hr'
          rcases Nat.lt_or_ge k i with hlt | hge
          · exact hr k r hlt hr'
          · have : k = i := by omega
            subst this
            rw [hp] at hr'; cases hr'
            exact ⟨hok, hj⟩
        refine Br.mk (fun h7 => ?_) fun h7 => ?_
        · simp only [decide_eq_true_eq] at h7
          obtain ⟨j, rfl⟩ : ∃ j, i = j + 1 := ⟨i - 1, by omega⟩
          obtain ⟨p', hp'⟩ : ∃ p, l[j]? = some p := ⟨_, List.getElem?_eq_getElem (by omega)⟩
          obtain ⟨ad', ha', v', hc', hb'⟩ := (a.ext x).at_ j p' hp'
          have ew : IntKind.i64.wrap (((j + 1 : Nat) : Int) - 1) = (j : Int) := by rw [i64_eq (by omega) (by omega)]; omega
          rw [ew]
          refine Ld.key (row_cell r4 rfl) (Idx.mk ha' (by rw [a.len]; omega) ?_)
          rw [nat_mul]
          have hk' : cellAt h4 (ad'.add (j * 2)) = some (.string p'.key) := x4.cellAt (cellAt_lt (hc' 0 _ rfl)) (hc' 0 _ rfl)
          refine Ld.key hk' ?_
          rw [sLt_or]
          refine Br.mk (fun h8 => ?_) fun h8 => ?_
          · simp only [Bool.not_eq_true'] at h8
            refine qn (fun r => ?_) _ xx
            have := (r (j + 1) p (by omega) hp).2 j p' rfl hp'
            rw [this] at h8; cases h8
          · simp only [Bool.not_eq_false'] at h8
            rw [wrap_succ (by omega)]
            exact ⟨⟨j + 1 + 1, rfl, by omega, next fun k q hk hq => by
              have : k = j := by omega
              subst this; rw [hp'] at hq; cases hq; exact h8, xx⟩, by simp only [Int.toNat_natCast]; omega⟩
        · simp only [decide_eq_false_iff_not] at h7
          have hi0 : i = 0 := by omega
          subst hi0
          rw [wrap_succ (by omega)]
          exact ⟨⟨1, rfl, by omega, next fun k q hk => by omega, xx⟩, by simp only [Int.toNat_natCast]; omega⟩
  · simp only [decide_eq_false_iff_not] at h2
    rw [a.len] at h2
    have : i = l.length := by omega
    rw [this] at hr
    exact qy hr _ x
end
end Go.Dn.W
