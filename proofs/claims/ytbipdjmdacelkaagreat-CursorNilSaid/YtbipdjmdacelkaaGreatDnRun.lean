/- The evaluator is sound: regions, code, functions. -/
import Derived.Test.YtbipdjmdacelkaaGreatDnSound
namespace Go.Dn
open Go

/-! ### frames -/

/-- the frame is as the evaluator takes it to be -/
structure Ag (n : Nat) (fr : Fr) (a : Act) : Prop where
  size : a.tmps.size = n
  get : ∀ i, i < n → a.tmps[i]? = some (fr i)

theorem ble_true {t n : Nat} (h : t < n) : Nat.ble (t + 1) n = true := Nat.ble_eq_true_of_le h
theorem ble_false {t n : Nat} (h : ¬ t < n) : Nat.ble (t + 1) n = false := by
  cases hb : Nat.ble (t + 1) n with
  | false => rfl
  | true => exact absurd (Nat.le_of_ble_eq_true hb) h
theorem beq_true' {i j : Nat} (h : Nat.beq i j = true) : i = j := Nat.eq_of_beq_eq_true h
theorem beq_false' {i j : Nat} (h : Nat.beq i j = false) : i ≠ j := Nat.ne_of_beq_eq_false h

section frames
variable {n : Nat} {fr : Fr} {a : Act}

theorem Ag.eval (g : Ag n fr a) : a.eval = evv n fr := by
  funext x
  cases x with
  | tmp t =>
    simp only [Act.eval, evv, Array.getD_eq_getD_getElem?]
    by_cases h : t < n
    · rw [g.get t h, ble_true h]; rfl
    · rw [Array.getElem?_eq_none (by rw [g.size]; exact Nat.le_of_not_lt h), ble_false h]; rfl
  | _ => rfl

theorem upd_at (fr : Fr) (i : Nat) (v : Value) : upd fr i v i = v := by simp [upd, Nat.beq_refl]
theorem upd_ne (fr : Fr) {i j : Nat} (v : Value) (h : j ≠ i) : upd fr i v j = fr j := by
  unfold upd
  cases hb : Nat.beq j i with
  | false => rfl
  | true => exact absurd (beq_true' hb) h
theorem upd_same {t : Nat} {v : Value} (h : fr t = v) : upd fr t v = fr := by
  funext j
  by_cases hj : j = t
  · subst hj; rw [upd_at, h]
  · exact upd_ne _ _ hj

theorem Ag.put (g : Ag n fr a) (o : Option Nat) (v : Value) : Ag n (updO fr o v) (a.put o v) := by
  refine ⟨by rw [put_size]; exact g.size, fun i hi => ?_⟩
  cases o with
  | none => exact g.get i hi
  | some t =>
    by_cases h : i = t
    · subst h; rw [put_tmps_eq (by rw [g.size]; exact hi)]; simp [updO, upd_at]
    · rw [put_tmps_ne (by simpa using fun e => h e.symm), g.get i hi]; simp [updO, upd_ne _ _ h]

theorem Ag.ext {fr' : Fr} (g : Ag n fr a) (h : ∀ i, i < n → fr' i = fr i) : Ag n fr' a := ⟨g.size, fun i hi => by rw [g.get i hi, h i hi]⟩
theorem Ag.defers (g : Ag n fr a) (ds : List Deferred) : Ag n fr { a with defers := ds } := ⟨g.size, g.get⟩

theorem evG_ok {ops : Array Oper} {o : Oper} (g : Ag n fr a) {run skip : Fr → Prop} (h : evG n ops.toList o.guard fr run skip) :
    (Region.wanted o (yielded ops a.tmps) = true ∧ run fr) ∨ (Region.wanted o (yielded ops a.tmps) = false ∧ skip fr) := by
  unfold Region.wanted
  cases hg : o.guard with
  | none => rw [hg] at h; exact .inl ⟨rfl, h⟩
  | some jw =>
    obtain ⟨j, want⟩ := jw
    rw [hg] at h
    simp only [evG, nth_eq, Array.getElem?_toList] at h
    simp only [yielded]
    cases hoj : ops[j]? with
    | none => rw [hoj] at h; exact .inr ⟨by simp, h⟩
    | some oj =>
      rw [hoj] at h
      simp only at h
      cases ht : oj.dst with
      | none => rw [ht] at h; exact .inr ⟨by simp [ht], h⟩
      | some t =>
        rw [ht] at h
        simp only at h
        by_cases hlt : t < n
        · rw [ble_true hlt] at h
          simp only [cond_true] at h
          simp only [Option.bind_some, ht, g.get t hlt]
          split at h
          · rename_i b hb
            have e : upd fr t (.bool b) = fr := upd_same hb
            rcases h.out with ⟨rfl, h⟩ | ⟨rfl, h⟩ <;> rw [hb] <;> cases want <;> simp only [e] at h <;> first | exact .inl ⟨rfl, h⟩ | exact .inr ⟨rfl, h⟩
          · rename_i hb
            refine .inr ⟨?_, h⟩
            split
            · rename_i b e; simp only [Option.some.injEq] at e; exact absurd e (hb b)
            · rfl
        · rw [ble_false hlt] at h
          simp only [cond_false] at h
          refine .inr ⟨?_, h⟩
          have e : a.tmps[t]? = none := Array.getElem?_eq_none (by rw [g.size]; exact Nat.le_of_not_lt hlt)
          simp only [Option.bind_some, ht]
          rw [e]
          rfl
end frames

/-! ### lists -/

theorem memN_iff {i : Nat} : ∀ {l : List Nat}, memN i l = true ↔ i ∈ l
  | [] => by simp [memN]
  | j :: l => by
    simp only [memN, Bool.or_eq_true, memN_iff (l := l), List.mem_cons]
    constructor
    · rintro (h | h)
      · exact .inl (beq_true' h)
      · exact .inr h
    · rintro (rfl | h)
      · exact .inl (Nat.beq_refl _)
      · exact .inr h
theorem memN_false {i : Nat} {l : List Nat} : memN i l = false ↔ i ∉ l := by
  rw [← memN_iff]; simp

def subL : List Nat → List Nat → Bool
  | [], _ => true
  | i :: l, m => memN i m && subL l m
theorem subL_iff : ∀ {l m : List Nat}, subL l m = true → ∀ i, i ∈ l → i ∈ m
  | i :: l, m, h, j, hj => by
    simp only [subL, Bool.and_eq_true] at h
    rcases List.mem_cons.1 hj with rfl | hj
    · exact memN_iff.1 h.1
    · exact subL_iff h.2 j hj

/-! ### places where ways meet -/

def Spec.all (s : Spec) : List Nat := s.slots.map Prod.fst ++ s.junk

theorem takeN_append {α : Type} : ∀ (l m : List α), takeN l.length (l ++ m) = l
  | [], m => by cases m <;> rfl
  | x :: l, m => by simp [takeN, takeN_append l m]
theorem dropN_append {α : Type} : ∀ (l m : List α), dropN l.length (l ++ m) = m
  | [], m => by cases m <;> rfl
  | x :: l, m => by simp [dropN, dropN_append l m]

theorem cmpVals_spec {c : Cmp} {v : Value} {vs : List Value} (h : cmpVals c v = some vs) : vs.length = c.leaves.length ∧ ∀ rest, c.build (vs ++ rest) = v := by
  cases c with
  | leaf l => simp only [cmpVals, Option.some.injEq] at h; subst h; exact ⟨rfl, fun _ => rfl⟩
  | agg ls =>
    cases v <;> simp only [cmpVals] at h
    case agg cs =>
      cases hb : Nat.beq cs.toList.length ls.length with
      | false => rw [hb] at h; cases h
      | true =>
        rw [hb] at h
        simp only [cond_true, Option.some.injEq] at h
        subst h
        refine ⟨beq_true' hb, fun rest => ?_⟩
        simp only [Cmp.build, ← beq_true' hb, takeN_append]
    all_goals cases h

theorem slots_fr : ∀ (l : List (Nat × Cmp)) {fr' fr0 : Fr} {vs : List Value}, slotVals fr' l = some vs → ∀ i, updAll l vs fr0 i = if i ∈ l.map Prod.fst then fr' i else fr0 i
  | [], _, _, _, _, i => by simp [updAll]
  | (t, c) :: l, fr', fr0, vs, h, i => by
    simp only [slotVals] at h
    cases h1 : cmpVals c (fr' t) with
    | none => rw [h1] at h; cases h
    | some a =>
      cases h2 : slotVals fr' l with
      | none => rw [h1, h2] at h; cases h
      | some b =>
        rw [h1, h2] at h
        simp only [andThenL, Option.some.injEq] at h
        subst h
        obtain ⟨hl, hb⟩ := cmpVals_spec h1
        simp only [updAll, hb, ← hl, dropN_append]
        by_cases hi : i = t
        · subst hi; rw [upd_at]; simp
        · have e : (i ∈ ((t, c) :: l).map Prod.fst) = (i ∈ l.map Prod.fst) := by simp [hi]
          rw [upd_ne _ _ hi, slots_fr l h2 i]
          simp only [e]

/-- the frame is known again -/
theorem join_fr {s : Spec} {fr fr' : Fr} {vs : List Value} {l : List Nat} (hs : subL l s.all = true) (hv : slotVals fr' s.slots = some vs) (hag : ∀ i, memN i l = false → fr' i = fr i) :
    updAll s.slots vs (over s.junk fr' fr) = fr' := by
  funext i
  rw [slots_fr _ hv]
  split
  · rfl
  · rename_i hn
    unfold over
    cases hj : memN i s.junk with
    | true => rfl
    | false =>
      simp only [cond_false]
      refine (hag i ?_).symm
      rw [memN_false]
      intro hi
      rcases List.mem_append.1 (subL_iff hs i hi) with h | h
      · exact hn h
      · exact memN_false.1 hj h

theorem updAll_out : ∀ (l : List (Nat × Cmp)) (vs : List Value) (fr : Fr) (i : Nat), i ∉ l.map Prod.fst → updAll l vs fr i = fr i
  | [], _, _, _, _ => rfl
  | (t, c) :: l, vs, fr, i, h => by
    simp only [List.map_cons, List.mem_cons, not_or] at h
    simp only [updAll]
    rw [upd_ne _ _ h.1, updAll_out l _ fr i h.2]
theorem over_out {j : List Nat} {f fr : Fr} {i : Nat} (h : i ∉ j) : over j f fr i = fr i := by
  unfold over; rw [memN_false.2 h]; rfl
theorem spec_out {s : Spec} {vs : List Value} {j fr : Fr} {i : Nat} (h : i ∉ s.all) : updAll s.slots vs (over s.junk j fr) i = fr i := by
  simp only [Spec.all, List.mem_append, not_or] at h
  rw [updAll_out _ _ _ _ h.1, over_out h.2]

theorem decLeaf_is {l : Leaf} {v : Value} {K : LTy l → Prop} (h : decLeaf l v K) : ∃ x, l.enc x = v ∧ K x := by
  unfold decLeaf at h
  split at h
  · exact ⟨_, rfl, h⟩
  · obtain ⟨hk, h⟩ := h.out; have := kEq_eq hk; subst this; exact ⟨_, rfl, h⟩
  · exact ⟨_, rfl, h⟩
  · exact ⟨_, rfl, h⟩
  · exact ⟨_, rfl, h⟩
  · exact ⟨_, rfl, h⟩
  · exact ⟨_, rfl, h⟩
  · exact h.elim

theorem decL_allJ : ∀ (ls : List Leaf) {vs : List Value} {J : Cur (Mem → Prop) ls} {h : Mem} {g : List Value → (Mem → Prop) → Prop}, decL ls vs J h → allJ ls J g → ∃ i, i h ∧ g vs i
  | [], [], J, _, _, hd, ha => ⟨J, hd, ha⟩
  | l :: ls, v :: vs, J, h, g, hd, ha => by
    simp only [decL] at hd
    obtain ⟨x, e, hd'⟩ := decLeaf_is hd
    rw [← e]
    exact decL_allJ (g := fun vs i => g (l.enc x :: vs) i) ls hd' (ha x)
  | [], _ :: _, _, _, _, hd, _ => hd.elim
  | _ :: _, [], _, _, _, hd, _ => hd.elim

theorem decL_allL : ∀ (ls : List Leaf) {vs : List Value} {I : Cur (Mem → Prop) ls} {μ : Cur (Mem → Nat) ls} {h : Mem} {g : List Value → (Mem → Prop) → (Mem → Nat) → Prop}, decL ls vs I h → allL ls I μ g → ∃ i m, i h ∧ g vs i m
  | [], [], I, μ, _, _, hd, ha => ⟨I, μ, hd, ha⟩
  | l :: ls, v :: vs, I, μ, h, g, hd, ha => by
    simp only [decL] at hd
    obtain ⟨x, e, hd'⟩ := decLeaf_is hd
    rw [← e]
    exact decL_allL (g := fun vs i m => g (l.enc x :: vs) i m) ls hd' (ha x)
  | [], _ :: _, _, _, _, _, hd, _ => hd.elim
  | _ :: _, [], _, _, _, _, hd, _ => hd.elim

theorem decL_andC : ∀ (ls : List Leaf) {vs : List Value} {I : Cur (Mem → Prop) ls} {μ : Cur (Mem → Nat) ls} {h : Mem} {k : Nat} {g : List Value → (Mem → Prop) → (Mem → Nat) → Prop},
    decL ls vs (andC ls I μ k) h → allL ls I μ g → ∃ i m, i h ∧ m h < k ∧ g vs i m
  | [], [], I, μ, _, _, _, hd, ha => ⟨I, μ, hd.1, hd.2, ha⟩
  | l :: ls, v :: vs, I, μ, h, k, g, hd, ha => by
    simp only [decL] at hd
    obtain ⟨x, e, hd'⟩ := decLeaf_is hd
    rw [← e]
    exact decL_andC (g := fun vs i m => g (l.enc x :: vs) i m) ls hd' (ha x)
  | [], _ :: _, _, _, _, _, _, hd, _ => hd.elim
  | _ :: _, [], _, _, _, _, _, hd, _ => hd.elim

theorem decO_some {ls : List Leaf} {vs : Option (List Value)} {K : Cur (Mem → Prop) ls} {h : Mem} (hd : decO ls vs K h) : ∃ l, vs = some l ∧ decL ls l K h := by
  cases vs with
  | none => exact hd.elim
  | some l => exact ⟨l, rfl, hd⟩

theorem sameD_out {d' d : List Deferred} {A : Prop} (h : sameD d' d A) : d' = d ∧ A := by
  unfold sameD at h
  split at h
  · exact ⟨rfl, h⟩
  · exact h

/-! ### regions in text order -/

section regions
variable {P : Program} {n : Nat} {ops : Array Oper} {ro : Option Nat}

theorem cls_loud {o : Oper} (h : ∃ c, o.op = .defer c) : clsOf P o = .loud := by
  obtain ⟨c, h⟩ := h
  simp [clsOf, h]

theorem evO_ok {o : Oper} {fr : Fr} {a : Act} {w : World} {K : Value → Mem → Prop} (g : Ag n fr a) (h : evO P n ops.toList o fr w.heap K) :
    NextDo P ro a.defers (fun v d w' => d = a.defers ∧ Same w w' ∧ K v w'.heap) ((o.semAt ro a.eval).run P w) := by
  unfold evO at h
  have fin : (∀ c, o.op ≠ .defer c) → Invokes P (execOp (evv n fr) o) w.heap K → NextDo P ro a.defers (fun v d w' => d = a.defers ∧ Same w w' ∧ K v w'.heap) ((o.semAt ro a.eval).run P w) := by
    intro hd hi
    rw [Oper.semAt_eq _ _ _ hd, g.eval]
    exact NextV.toDo (hi w rfl)
  have nd : clsOf P o ≠ .loud → ∀ c, o.op ≠ .defer c := fun hc c e => hc (cls_loud ⟨c, e⟩)
  split at h
  · rename_i hc
    obtain ⟨v, hv, hr⟩ := evP_ok h
    refine fin (nd (by rw [hc]; simp)) fun w' hw => ?_
    rw [hr w']
    exact ⟨Same.refl _, by rw [hw]; exact hv⟩
  · rename_i hc
    obtain ⟨v, hv, hr⟩ := evR_ok hc h
    refine fin (nd (by rw [hc]; simp)) fun w' hw => ?_
    rw [hr w' hw]
    exact ⟨Same.refl _, by rw [hw]; exact hv⟩
  · obtain ⟨hd, hi⟩ := evL_ok h
    exact fin hd hi

/-- the temporaries that the operations of a tree write -/
def wrT (ops : List Oper) : RT → List Nat
  | .nil => []
  | .op i _ rest =>
    match nth ops i with
    | some o => match o.dst with | some d => d :: wrT ops rest | none => wrT ops rest
    | none => wrT ops rest
  | .join s body rest => s.all ++ (wrT ops body ++ wrT ops rest)

def okT (ops : List Oper) : RT → Bool
  | .nil => true
  | .op _ _ rest => okT ops rest
  | .join s body rest => subL (wrT ops body) s.all && (okT ops body && okT ops rest)

theorem updO_out {fr : Fr} {o : Oper} {v : Value} {rest : RT} {i : Nat} {loud : Bool} (ho : ops[i]? = some o) {j : Nat} (h : memN j (wrT ops.toList (.op i loud rest)) = false) :
    memN j (wrT ops.toList rest) = false ∧ updO fr o.dst v j = fr j := by
  simp only [wrT, nth_eq, Array.getElem?_toList, ho] at h
  cases hd : o.dst with
  | none => rw [hd] at h; exact ⟨h, rfl⟩
  | some d =>
    rw [hd, memN_false] at h
    simp only [List.mem_cons, not_or] at h
    exact ⟨memN_false.2 h.2, upd_ne _ _ h.1⟩

theorem evN_ok {K' : Act → World → Prop} : ∀ (r : RT) (rem : List Nat) {K : Fr → Mem → Prop} {fr : Fr} {a : Act} {w : World}, okT ops.toList r = true → evN P n ops.toList r fr w.heap K → Ag n fr a →
    (∀ fr' a' w', K fr' w'.heap → Ag n fr' a' → a'.defers = a.defers → Same w w' → (∀ i, memN i (wrT ops.toList r) = false → fr' i = fr i) → OpsW P ro ops K' rem a' w') →
    OpsW P ro ops K' (r.flat.map Prod.fst ++ rem) a w
  | .nil, rem, K, fr, a, w, _, he, g, hk => hk fr a w he g rfl (Same.refl _) fun _ _ => rfl
  | .op i loud rest, rem, K, fr, a, w, hok, he, g, hk => by
    simp only [evN, nth_eq, Array.getElem?_toList] at he
    cases ho : ops[i]? with
    | none => rw [ho] at he; exact he.elim
    | some o =>
      rw [ho] at he
      simp only at he
      simp only [RT.flat, List.map_cons, List.cons_append, OpsW, OpW, ho]
      rcases evG_ok g he with ⟨hw, he⟩ | ⟨hw, he⟩
      · rw [if_pos hw]
        refine (evO_ok g he).mono fun v d w' ⟨hd, hs, he⟩ => ?_
        subst hd
        refine evN_ok rest rem hok he (g.put _ _) fun fr' a' w'' hK g' hd' hs' hout => ?_
        refine hk fr' a' w'' hK g' (by rw [hd', put_defers']) (hs.trans hs') fun j hj => ?_
        obtain ⟨h1, h2⟩ := updO_out (fr := fr) (v := v) ho hj
        rw [hout j h1, h2]
      · rw [if_neg (by rw [hw]; simp)]
        refine evN_ok rest rem hok he (g.put _ _) fun fr' a' w'' hK g' hd' hs' hout => ?_
        refine hk fr' a' w'' hK g' (by rw [hd', put_defers']) hs' fun j hj => ?_
        obtain ⟨h1, h2⟩ := updO_out (fr := fr) (v := undef) ho hj
        rw [hout j h1, h2]
  | .join s body rest, rem, K, fr, a, w, hok, he, g, hk => by
    simp only [okT, Bool.and_eq_true] at hok
    obtain ⟨hsub, hob, hor⟩ := hok
    obtain ⟨J, hrest, hbody⟩ := he
    simp only [RT.flat, List.map_append, List.append_assoc]
    refine evN_ok body _ hob hbody g fun fr' a' w' hd g' hdf hs hout => ?_
    obtain ⟨vs, hv, hd⟩ := decO_some hd
    obtain ⟨i, hi, hq⟩ := decL_allJ _ hd (hrest fr')
    have hq := hq _ hi
    rw [join_fr hsub hv hout] at hq
    refine evN_ok rest rem hor hq g' fun fr'' a'' w'' hK g'' hdf' hs' hout' => ?_
    refine hk fr'' a'' w'' hK g'' (by rw [hdf', hdf]) (hs.trans hs') fun j hj => ?_
    simp only [wrT] at hj
    rw [memN_false, List.mem_append, List.mem_append, not_or, not_or] at hj
    rw [hout' j (memN_false.2 hj.2.2), hout j (memN_false.2 hj.2.1)]

/-! ### regions that draw -/

theorem reachE_eq {rec' : Oper → Bool} {rec : Nat → Bool} {i : Nat} (hr : ∀ j, (match ops[j]? with | some o => rec' o | none => false) = rec j) :
    ∀ (l : List Edge), reachE rec' ops.toList i l = l.any fun e => Region.binds .any e && (e.on == i || ((match e.ground with | .data => true | .chain => true | _ => false) && rec e.on))
  | [] => rfl
  | e :: l => by
    have hre := hr e.on
    simp only [reachE, List.any_cons, reachE_eq hr l, nth_eq, Array.getElem?_toList]
    have hb : Nat.beq e.on i = (e.on == i) := by
      cases h : Nat.beq e.on i with
      | false => exact (beq_eq_false_iff_ne.2 (beq_false' h)).symm
      | true => exact (beq_iff_eq.2 (beq_true' h)).symm
    rw [hb]
    cases ho : ops[e.on]? <;> rw [ho] at hre <;> (try simp only at hre) <;> rw [← hre] <;> cases e.ground <;> rfl

theorem reach_eq {i : Nat} : ∀ (d l : Nat), (match ops[l]? with | some o => reachL ops.toList d o i | none => false) = reach ops d l i
  | 0, l => by cases ops[l]? <;> rfl
  | d + 1, l => by
    simp only [reach]
    cases ho : ops[l]? with
    | none => rfl
    | some o =>
      simp only [reachL]
      rw [reachE_eq (reach_eq (i := i) d), Array.any_toList]
      rfl

/-- what has been read is known, or need not be known again -/
def HR (P : Program) (n : Nat) (hsE : List (Nat × Value × Fr × Oper)) (hsC : List (Nat × Value × Sem Next)) (E : Nat → Prop) (h : Mem) : Prop :=
  ∀ x ∈ hsC, (∀ w, x.2.2.run P w = .ok (.value x.2.1) w) ∨
    (∃ fr o, (x.1, x.2.1, fr, o) ∈ hsE ∧ clsOf P o = .read ∧ x.2.2 = execOp (evv n fr) o ∧ ∀ w : World, w.heap = h → x.2.2.run P w = .ok (.value x.2.1) w) ∨ E x.1

theorem mem_dropWaits {opsL : List Oper} {o : Oper} {x : Nat × Value × Fr × Oper} : ∀ {hs : List (Nat × Value × Fr × Oper)}, x ∈ dropWaits opsL o hs ↔ x ∈ hs ∧ reachL opsL 8 o x.1 = false
  | [] => by simp [dropWaits]
  | y :: hs => by
    simp only [dropWaits]
    cases hr : reachL opsL 8 o y.1 with
    | true =>
      simp only [cond_true, mem_dropWaits (hs := hs), List.mem_cons]
      constructor
      · rintro ⟨h1, h2⟩; exact ⟨.inr h1, h2⟩
      · rintro ⟨rfl | h1, h2⟩
        · rw [hr] at h2; cases h2
        · exact ⟨h1, h2⟩
    | false =>
      simp only [cond_false, List.mem_cons, mem_dropWaits (hs := hs)]
      constructor
      · rintro (rfl | ⟨h1, h2⟩)
        · exact ⟨.inl rfl, hr⟩
        · exact ⟨.inr h1, h2⟩
      · rintro ⟨rfl | h1, h2⟩
        · exact .inl rfl
        · exact .inr ⟨h1, h2⟩

theorem mem_dropTree {opsL : List Oper} {x : Nat × Value × Fr × Oper} : ∀ {l : List (Nat × Bool)} {hs : List (Nat × Value × Fr × Oper)},
    x ∈ dropTree opsL l hs ↔ x ∈ hs ∧ ∀ k, (k, true) ∈ l → ∀ o, opsL[k]? = some o → reachL opsL 8 o x.1 = false
  | [], hs => by simp [dropTree]
  | (k, loud) :: l, hs => by
    simp only [dropTree, nth_eq]
    cases ho : opsL[k]? with
    | none =>
      simp only [mem_dropTree (l := l)]
      constructor
      · rintro ⟨h1, h2⟩
        refine ⟨h1, fun k' hk o' ho' => ?_⟩
        rcases List.mem_cons.1 hk with e | hk
        · cases e; rw [ho] at ho'; cases ho'
        · exact h2 k' hk o' ho'
      · rintro ⟨h1, h2⟩
        exact ⟨h1, fun k' hk => h2 k' (List.mem_cons_of_mem _ hk)⟩
    | some o =>
      cases loud with
      | false =>
        simp only [cond_false, mem_dropTree (l := l)]
        constructor
        · rintro ⟨h1, h2⟩
          refine ⟨h1, fun k' hk o' ho' => ?_⟩
          rcases List.mem_cons.1 hk with e | hk
          · cases e
          · exact h2 k' hk o' ho'
        · rintro ⟨h1, h2⟩
          exact ⟨h1, fun k' hk => h2 k' (List.mem_cons_of_mem _ hk)⟩
      | true =>
        simp only [cond_true, mem_dropTree (l := l), mem_dropWaits]
        constructor
        · rintro ⟨⟨h1, h0⟩, h2⟩
          refine ⟨h1, fun k' hk o' ho' => ?_⟩
          rcases List.mem_cons.1 hk with e | hk
          · cases e; rw [ho] at ho'; cases ho'; exact h0
          · exact h2 k' hk o' ho'
        · rintro ⟨h1, h2⟩
          exact ⟨⟨h1, h2 k (List.mem_cons_self ..) o ho⟩, fun k' hk => h2 k' (List.mem_cons_of_mem _ hk)⟩

theorem evAgain_out {opsL : List Oper} {o : Oper} {h : Mem} : ∀ {hs : List (Nat × Value × Fr × Oper)} {A : Prop}, evAgain P n opsL o h hs A →
    A ∧ ∀ x ∈ hs, reachL opsL 8 o x.1 = false → evR P n opsL x.2.2.2 x.2.2.1 h fun v' => v' = x.2.1
  | [], A, ha => ⟨ha, fun x hx => by cases hx⟩
  | (i, v, fr, o') :: hs, A, ha => by
    simp only [evAgain] at ha
    cases hr : reachL opsL 8 o i with
    | true =>
      rw [hr] at ha
      obtain ⟨h1, h2⟩ := evAgain_out (hs := hs) ha
      refine ⟨h1, fun x hx hx' => ?_⟩
      rcases List.mem_cons.1 hx with rfl | hx
      · rw [hr] at hx'; cases hx'
      · exact h2 x hx hx'
    | false =>
      rw [hr] at ha
      obtain ⟨h0, ha⟩ := ha
      obtain ⟨h1, h2⟩ := evAgain_out (hs := hs) ha
      refine ⟨h1, fun x hx hx' => ?_⟩
      rcases List.mem_cons.1 hx with rfl | hx
      · exact h0
      · exact h2 x hx hx'

theorem allWait_out {opsL : List Oper} {i : Nat} : ∀ {l : List (Nat × Bool)}, allWait opsL i l = true → ∀ k, (k, true) ∈ l → (match opsL[k]? with | some o => reachL opsL 8 o i | none => false) = true
  | (k', loud) :: l, h, k, hk => by
    simp only [allWait, nth_eq, Bool.and_eq_true, Bool.or_eq_true, Bool.not_eq_true'] at h
    rcases List.mem_cons.1 hk with e | hk
    · cases e
      rcases h.1 with h | h
      · cases h
      · exact h
    · exact allWait_out h.2 k hk
theorem allWaits_out {opsL : List Oper} {order : List (Nat × Bool)} : ∀ {l : List Nat}, allWaits opsL order l = true → ∀ i ∈ l, allWait opsL i order = true
  | j :: l, h, i, hi => by
    simp only [allWaits, Bool.and_eq_true] at h
    rcases List.mem_cons.1 hi with rfl | hi
    · exact h.1
    · exact allWaits_out h.2 i hi

theorem evD_ok {K' : Act → World → Prop} : ∀ (r : RT) (rem : List (Nat × Bool)) {K : Fr → Mem → Prop} {hsE : List (Nat × Value × Fr × Oper)} {hsC : List (Nat × Value × Sem Next)} {E : Nat → Prop} {fr : Fr} {a : Act} {w : World},
    okT ops.toList r = true → evD P n ops.toList r hsE fr w.heap K → Ag n fr a → HR P n hsE hsC E w.heap → (∀ i, E i → ∀ k, (k, true) ∈ r.flat → reach ops 8 k i = true) →
    (∀ fr' a' w' hsC', K fr' w'.heap → Ag n fr' a' → a'.defers = a.defers → Same w w' → (∀ i, memN i (wrT ops.toList r) = false → fr' i = fr i) →
      HR P n (dropTree ops.toList r.flat hsE) hsC' (fun i => E i ∨ i ∈ readsOf P ops.toList r) w'.heap → CanW ops P ro K' rem hsC' a' w') →
    CanW ops P ro K' (r.flat ++ rem) hsC a w
  | .nil, rem, K, hsE, hsC, E, fr, a, w, _, he, g, hR, _, hk =>
    hk fr a w hsC he g rfl (Same.refl _) (fun _ _ => rfl) fun x hx => by
      rcases hR x hx with h | ⟨f, o, h1, h2, h3, h4⟩ | h
      · exact .inl h
      · exact .inr (.inl ⟨f, o, h1, h2, h3, h4⟩)
      · exact .inr (.inr (.inl h))
  | .op i false rest, rem, K, hsE, hsC, E, fr, a, w, hok, he, g, hR, hE, hk => by
    simp only [evD, nth_eq, Array.getElem?_toList] at he
    cases ho : ops[i]? with
    | none => rw [ho] at he; exact he.elim
    | some o =>
      rw [ho] at he
      simp only at he
      simp only [RT.flat, List.cons_append, CanW, ho]
      have hE' : ∀ i, E i → ∀ k, (k, true) ∈ rest.flat → reach ops 8 k i = true := fun j hj k hk => hE j hj k (List.mem_cons_of_mem _ hk)
      have sub : ∀ j, j ∈ readsOf P ops.toList rest → j ∈ readsOf P ops.toList (.op i false rest) := by
        intro j hj
        simp only [readsOf, nth_eq, Array.getElem?_toList, ho]
        cases isRead P o
        · exact hj
        · exact List.mem_cons_of_mem _ hj
      -- what comes behind it
      have next : ∀ (v : Value) (hsE' : List (Nat × Value × Fr × Oper)) (hsC' : List (Nat × Value × Sem Next)),
          evD P n ops.toList rest hsE' (updO fr o.dst v) w.heap K → HR P n hsE' hsC' E w.heap → (∀ x ∈ hsE', x ∈ hsE ∨ (isRead P o = true ∧ x.1 = i)) →
          CanW ops P ro K' (rest.flat ++ rem) hsC' (a.put o.dst v) w := by
        intro v hsE' hsC' he hR' hsub
        refine evD_ok rest rem hok he (g.put _ _) hR' hE' fun fr' a' w'' hsC'' hK g' hd' hs' hout hR'' => ?_
        refine hk fr' a' w'' hsC'' hK g' (by rw [hd', put_defers']) hs' (fun j hj => ?_) fun x hx => ?_
        · obtain ⟨h1, h2⟩ := updO_out (fr := fr) (v := v) ho hj
          rw [hout j h1, h2]
        · rcases hR'' x hx with h | ⟨f, o', h1, h2, h3, h4⟩ | h | h
          · exact .inl h
          · obtain ⟨m1, m2⟩ := mem_dropTree.1 h1
            rcases hsub _ m1 with m1 | ⟨hir, e⟩
            · refine .inr (.inl ⟨f, o', mem_dropTree.2 ⟨m1, fun k hk => ?_⟩, h2, h3, h4⟩)
              rcases List.mem_cons.1 hk with e | hk
              · cases e
              · exact m2 k hk
            · refine .inr (.inr (.inr ?_))
              simp only [readsOf, nth_eq, Array.getElem?_toList, ho, hir, cond_true]
              rw [show x.1 = i from e]
              exact List.mem_cons_self ..
          · exact .inr (.inr (.inl h))
          · exact .inr (.inr (.inr (sub _ h)))
      rcases evG_ok g he with ⟨hw, he⟩ | ⟨hw, he⟩
      · rw [if_pos hw]
        split at he
        · rename_i hc
          obtain ⟨v, hv, hr⟩ := evP_ok he
          have hd : ∀ c, o.op ≠ .defer c := fun c e => by have := cls_loud (P := P) ⟨c, e⟩; rw [hc] at this; cases this
          rw [Oper.semAt_eq _ _ _ hd, g.eval]
          refine ⟨v, hr w, next v hsE _ hv ?_ fun x hx => .inl hx⟩
          intro x hx
          rcases List.mem_cons.1 hx with rfl | hx
          · exact .inl hr
          · exact hR x hx
        · rename_i hc
          obtain ⟨v, hv, hr⟩ := evR_ok hc he
          have hd : ∀ c, o.op ≠ .defer c := fun c e => by have := cls_loud (P := P) ⟨c, e⟩; rw [hc] at this; cases this
          rw [Oper.semAt_eq _ _ _ hd, g.eval]
          refine ⟨v, hr w rfl, next v _ _ hv ?_ fun x hx => ?_⟩
          · intro x hx
            rcases List.mem_cons.1 hx with rfl | hx
            · exact .inr (.inl ⟨fr, o, List.mem_cons_self .., hc, rfl, hr⟩)
            · rcases hR x hx with h | ⟨f, o', h1, h2, h3, h4⟩ | h
              · exact .inl h
              · exact .inr (.inl ⟨f, o', List.mem_cons_of_mem _ h1, h2, h3, h4⟩)
              · exact .inr (.inr h)
          · rcases List.mem_cons.1 hx with rfl | hx
            · exact .inr ⟨by simp [isRead, hc], rfl⟩
            · exact .inl hx
        · exact he.elim
      · rw [if_neg (by rw [hw]; simp)]
        exact next undef hsE hsC he hR fun x hx => .inl hx
  | .op i true rest, rem, K, hsE, hsC, E, fr, a, w, hok, he, g, hR, hE, hk => by
    simp only [evD, nth_eq, Array.getElem?_toList] at he
    cases ho : ops[i]? with
    | none => rw [ho] at he; exact he.elim
    | some o =>
      rw [ho] at he
      simp only at he
      simp only [RT.flat, List.cons_append, CanW, OpW, ho]
      have hE' : ∀ i, E i → ∀ k, (k, true) ∈ rest.flat → reach ops 8 k i = true := fun j hj k hk => hE j hj k (List.mem_cons_of_mem _ hk)
      have hEi : ∀ j, E j → reach ops 8 i j = true := fun j hj => hE j hj i (List.mem_cons_self ..)
      have hre : ∀ j, reachL ops.toList 8 o j = reach ops 8 i j := fun j => by rw [← reach_eq, ho]
      have sub : ∀ j, j ∈ readsOf P ops.toList rest → j ∈ readsOf P ops.toList (.op i true rest) := by
        intro j hj
        simp only [readsOf, nth_eq, Array.getElem?_toList, ho]
        cases isRead P o
        · exact hj
        · exact List.mem_cons_of_mem _ hj
      have next : ∀ (v : Value) (w' : World), Same w w' → evD P n ops.toList rest (dropWaits ops.toList o hsE) (updO fr o.dst v) w'.heap K →
          (∀ x ∈ hsE, clsOf P x.2.2.2 = .read → reachL ops.toList 8 o x.1 = false → ∀ x' : Nat × Value × Sem Next, x'.1 = x.1 → x'.2.1 = x.2.1 → x'.2.2 = execOp (evv n x.2.2.1) x.2.2.2 →
            (∀ w2 : World, w2.heap = w.heap → x'.2.2.run P w2 = .ok (.value x'.2.1) w2) → ∀ w2 : World, w2.heap = w'.heap → x'.2.2.run P w2 = .ok (.value x'.2.1) w2) →
          (∀ x ∈ hsC, reach ops 8 i x.1 = false → x.2.2.run P w' = .ok (.value x.2.1) w') ∧ CanW ops P ro K' (rest.flat ++ rem) (hsC.filter fun x => !reach ops 8 i x.1) (a.put o.dst v) w' := by
        intro v w' hsm he hval
        have hval' : ∀ x ∈ hsC, reach ops 8 i x.1 = false → (∀ w, x.2.2.run P w = .ok (.value x.2.1) w) ∨
            (∃ f o', (x.1, x.2.1, f, o') ∈ dropWaits ops.toList o hsE ∧ clsOf P o' = .read ∧ x.2.2 = execOp (evv n f) o' ∧ ∀ w2 : World, w2.heap = w'.heap → x.2.2.run P w2 = .ok (.value x.2.1) w2) := by
          intro x hx hr
          rcases hR x hx with h | ⟨f, o', h1, h2, h3, h4⟩ | h
          · exact .inl h
          · have hrl : reachL ops.toList 8 o x.1 = false := by rw [hre]; exact hr
            exact .inr ⟨f, o', mem_dropWaits.2 ⟨h1, hrl⟩, h2, h3, hval _ h1 h2 hrl x rfl rfl h3 h4⟩
          · rw [hEi _ h] at hr; cases hr
        refine ⟨fun x hx hr => ?_, ?_⟩
        · rcases hval' x hx hr with h | ⟨f, o', _, _, _, h⟩
          · exact h w'
          · exact h w' rfl
        refine evD_ok rest rem hok he (g.put _ _) (E := E) ?_ hE' fun fr' a' w'' hsC'' hK g' hd' hs' hout hR'' => ?_
        · intro x hx
          obtain ⟨hx, hr⟩ := List.mem_filter.1 hx
          rcases hval' x hx (by simpa using hr) with h | h
          · exact .inl h
          · exact .inr (.inl h)
        refine hk fr' a' w'' hsC'' hK g' (by rw [hd', put_defers']) (hsm.trans hs') (fun j hj => ?_) fun x hx => ?_
        · obtain ⟨h1, h2⟩ := updO_out (fr := fr) (v := v) ho hj
          rw [hout j h1, h2]
        · rcases hR'' x hx with h | ⟨f, o', h1, h2, h3, h4⟩ | h | h
          · exact .inl h
          · obtain ⟨m1, m2⟩ := mem_dropTree.1 h1
            obtain ⟨m1, m3⟩ := mem_dropWaits.1 m1
            refine .inr (.inl ⟨f, o', mem_dropTree.2 ⟨m1, fun k hk o2 ho2 => ?_⟩, h2, h3, h4⟩)
            rcases List.mem_cons.1 hk with e | hk
            · cases e
              rw [Array.getElem?_toList, ho] at ho2; cases ho2
              exact m3
            · exact m2 k hk o2 ho2
          · exact .inr (.inr (.inl h))
          · exact .inr (.inr (.inr (sub _ h)))
      rcases evG_ok g he with ⟨hw, he⟩ | ⟨hw, he⟩
      · rw [if_pos hw]
        split at he
        · rename_i hc
          obtain ⟨hd, hi⟩ := evL_ok he
          rw [Oper.semAt_eq _ _ _ hd, g.eval]
          refine (NextV.toDo (hi w rfl)).mono fun v d w' ⟨hdd, hs, ha⟩ => ?_
          subst hdd
          obtain ⟨he, hag⟩ := evAgain_out ha
          refine next v w' hs he fun x hx hcx hr x' e1 e2 e3 _ w2 hw2 => ?_
          obtain ⟨v', hv', hrun⟩ := evR_ok hcx (hag x hx hr)
          subst hv'
          rw [e3, e2]
          exact hrun w2 hw2
        · exact he.elim
      · rw [if_neg (by rw [hw]; simp)]
        exact next undef w (Same.refl _) he fun x hx _ _ x' _ _ _ h => h
  | .join s body rest, rem, K, hsE, hsC, E, fr, a, w, hok, he, g, hR, hE, hk => by
    simp only [okT, Bool.and_eq_true] at hok
    obtain ⟨hsub, hob, hor⟩ := hok
    obtain ⟨hwt, J, hrest, hbody⟩ := he.out
    simp only [RT.flat, List.append_assoc]
    refine evD_ok body _ hob hbody g hR (fun i hi k hk => hE i hi k (List.mem_append_left _ hk)) fun fr' a' w' hsC' hd g' hdf hs hout hR' => ?_
    obtain ⟨vs, hv, hd⟩ := decO_some hd
    obtain ⟨i, hi, hq⟩ := decL_allJ _ hd (hrest fr')
    have hq := hq _ hi
    rw [join_fr hsub hv hout] at hq
    refine evD_ok rest rem hor hq g' hR' ?_ fun fr'' a'' w'' hsC'' hK g'' hdf' hs' hout' hR'' => ?_
    · rintro j (hj | hj) k hk
      · exact hE j hj k (List.mem_append_right _ hk)
      · have := allWait_out (allWaits_out hwt j hj) k hk
        rw [Array.getElem?_toList, reach_eq] at this
        exact this
    refine hk fr'' a'' w'' hsC'' hK g'' (by rw [hdf', hdf]) (hs.trans hs') (fun j hj => ?_) fun x hx => ?_
    · simp only [wrT] at hj
      rw [memN_false, List.mem_append, List.mem_append, not_or, not_or] at hj
      rw [hout' j (memN_false.2 hj.2.2), hout j (memN_false.2 hj.2.1)]
    · rcases hR'' x hx with h | ⟨f, o', h1, h2, h3, h4⟩ | (h | h) | h
      · exact .inl h
      · obtain ⟨m1, m2⟩ := mem_dropTree.1 h1
        obtain ⟨m1, m3⟩ := mem_dropTree.1 m1
        refine .inr (.inl ⟨f, o', mem_dropTree.2 ⟨m1, fun k hk => ?_⟩, h2, h3, h4⟩)
        rcases List.mem_append.1 hk with hk | hk
        · exact m3 k hk
        · exact m2 k hk
      · exact .inr (.inr (.inl h))
      · exact .inr (.inr (.inr (List.mem_append_left _ h)))
      · exact .inr (.inr (.inr (List.mem_append_right _ h)))
end regions
end Go.Dn
