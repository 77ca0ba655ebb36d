/- Operations done to a list of pairs: the program. -/
import Derived.Test.YtemelcaoepaoiaaDnIns
import Derived.Test.YtemelcaoepaoiaaDnDoP
namespace Go.Dn.W
open Go Go.Dn Go.Proofs

theorem hcells_set : ∀ {hl : List (ByteArray × Sl)} {i : Nat} {q : ByteArray × Sl} (v : Sl), hl[i]? = some q → (hcells hl).set (i * 2 + 1) (sval v) = hcells (hl.set i (q.1, v))
  | [], i, q, v, hq => by simp at hq
  | q' :: hl, 0, q, v, hq => by
    simp only [List.getElem?_cons_zero, Option.some.injEq] at hq
    subst hq
    rfl
  | q' :: hl, i + 1, q, v, hq => by
    simp only [List.getElem?_cons_succ] at hq
    rw [show (i + 1) * 2 + 1 = i * 2 + 1 + 1 + 1 by omega, hcells_cons, List.set_cons_succ, List.set_cons_succ, hcells_set v hq, List.set_cons_succ, hcells_cons]

theorem Heads.set {h : Mem} {B : Nat} {hl : List (ByteArray × Sl)} {l : List Pr} (x : Heads h B hl l) {i : Nat} {q : ByteArray × Sl} {p : Pr} {v : Sl} {val : List UInt8} (hq : hl[i]? = some q) (hp : l[i]? = some p) (hv : OwnB h B ty_uint8 v val) : Heads h B (hl.set i (q.1, v)) (l.set i ⟨p.key, val⟩) := by
  refine ⟨by simp [x.len], fun k r u hr hu => ?_⟩
  rw [List.getElem?_set] at hr hu
  by_cases hk : i = k
  · subst hk
    have hi := (List.getElem?_eq_some_iff.1 hq).1
    have hi' := (List.getElem?_eq_some_iff.1 hp).1
    rw [if_pos rfl, if_pos hi] at hr
    rw [if_pos rfl, if_pos hi'] at hu
    cases hr; cases hu
    exact ⟨(x.is i q p hq hp).1, hv⟩
  · rw [if_neg hk] at hr hu
    exact x.is k r u hr hu

section
variable {h : Mem}

/-- a value is put into a pair of a list -/
theorem OwnP.setVal {B : Nat} {s : Sl} {l : List Pr} (x : OwnP h B s l) {i : Nat} {p : Pr} {v : Sl} {val : List UInt8} (hp : l[i]? = some p) (hv : OwnB h B ty_uint8 v val) {K : Mem → Prop} (hk : ∀ h', OwnP h' B s (l.set i ⟨p.key, val⟩) → Ext B h h' → K h') :
    ∃ a, s.a = some a ∧ St PG ty_sl_uint8 ((a.add (i * 2)).add 1) (sval v) h K := by
  have hlen := x.len
  have hi := (List.getElem?_eq_some_iff.1 hp).1
  obtain ⟨hl, o, hh⟩ := x
  obtain ⟨q, hq⟩ : ∃ q, hl[i]? = some q := ⟨_, List.getElem?_eq_getElem (by rw [hh.len]; exact hi)⟩
  rcases o.2 with ⟨hv', h0⟩ | ⟨g, cap, cur, hv', hB, hg, hc, hm, hcs, htk⟩
  · omega
  · simp only [Value.slice.injEq] at hv'
    obtain ⟨hva, _, hvc⟩ := hv'
    have hg : h[g]? = some (.cells cur ty_api_Pair (0, 0)) := hg
    refine ⟨_, hva, ?_⟩
    rw [add_add, Nat.zero_add]
    have hfit : i * 2 + 1 + 1 ≤ cur.size := by rw [hcs, ← hvc]; have := hvc ▸ hc; omega
    refine St.row und_bytes (vs := [sval v]) rfl sz_bytes (by intro u hu; simp only [List.mem_cons, List.not_mem_nil, or_false] at hu; subst hu; rfl) hg hfit fun h' u r => ?_
    have e : cur.toList.take (i * 2 + 1) ++ [sval v] ++ cur.toList.drop (i * 2 + 1 + [sval v].length) = cur.toList.set (i * 2 + 1) (sval v) := by
      rw [List.set_eq_take_append_cons_drop, if_pos (by rw [Array.length_toList]; omega)]
      simp
    rw [e] at r
    refine hk h' ⟨hl.set i (q.1, v), ⟨?_, .inr ⟨g, cap, _, by rw [hva, hvc], hB, r, hc, hm, ?_, ?_⟩⟩, ?_⟩ (u.ext hB)
    · rw [← hcells_set v hq, List.length_set]; exact o.1
    · rw [List.size_toArray, List.length_set, Array.length_toList]; exact hcs
    · show (cur.toList.set (i * 2 + 1) (sval v)).take (s.len * 2) = _
      rw [List.take_set, htk, hcells_set v hq]
    · exact (hh.upd hg u).set hq hp (Owns.kept hv fun a ha => u.block _ fun e => by
        obtain ⟨_, _, c', hc'⟩ := Owns.blk hv ha
        rw [e, hg] at hc'
        cases hc')

/-- why operations can't be done: 0, if they can -/
def pErr (l : List Pr) (ops : List Opn) : Int := if Right l then pBatch ops else 11
def pDo (l : List Pr) (ops : List Opn) : List Pr := if pErr l ops = 0 then doAll l ops else []

theorem pBatch_zero {ops : List Opn} (hb : pBatch ops = 0) : ops.length ≤ 32 ∧ ∀ o ∈ ops, oOk o = true ∧ (o.del = true → o.val = []) := by
  unfold pBatch at hb
  split at hb
  · cases hb
  · rename_i h1
    split at hb
    · cases hb
    · rename_i h2
      simp only [not_or, Bool.not_eq_true] at h1 h2
      refine ⟨by omega, fun o ho => ?_⟩
      have b1 : bad1 o = false := by
        cases hh : bad1 o with
        | false => rfl
        | true => rw [List.any_eq_true.2 ⟨o, ho, hh⟩] at h1; cases h1.2
      have b2 : bad2 o = false := by
        cases hh : bad2 o with
        | false => rfl
        | true => rw [List.any_eq_true.2 ⟨o, ho, hh⟩] at h2; cases h2.2.2
      unfold bad1 at b1
      unfold bad2 at b2
      simp only [Bool.or_eq_false_iff, Bool.not_eq_false', decide_eq_false_iff_not] at b1 b2
      refine ⟨?_, fun hd => ?_⟩
      · unfold oOk; rw [b1.1]; simp only [Bool.true_and, decide_eq_true_eq]; omega
      · have := b1.2
        rw [hd] at this
        simp only [Bool.true_and, decide_eq_false_iff_not] at this
        exact List.eq_nil_of_length_eq_zero (by omega)

theorem doAll_length {ops : List Opn} : ∀ {l : List Pr}, Right l → (∀ o ∈ ops, oOk o = true) → (doAll l ops).length ≤ l.length + ops.length := by
  induction ops with
  | nil => intro l r _; exact Nat.le_refl _
  | cons o ops ih =>
    intro l r ho
    have h1 := ih (r.doOne (ho o (by simp))) fun o' h' => ho o' (by simp [h'])
    have h2 := doOne_length (l := l) o
    show (doAll (doOne l o) ops).length ≤ _
    rw [List.length_cons]; omega

theorem set_split {α : Type} {l : List α} {i : Nat} (x : α) (hi : i < l.length) : l.set i x = l.take i ++ x :: l.drop (i + 1) := by
  rw [List.set_eq_take_append_cons_drop, if_pos hi]

theorem ct_plain_Do {s t : Sl} {l : List Pr} {ops : List Opn} {Q : Sl → Int → Mem → Prop} (a : PairsAt h s l) (b : OpsAt h t ops) (hl : l.length * 40 + 1280 ≤ 140737488355328) (hol : ops.length ≤ 140737488355328) (hok : ∀ (i : Nat) (o : Opn), ops[i]? = some o → opLen o ≤ 281474976710656)
    (q : ∀ s' h', Ext h.size h h' → OwnP h' h.size s' (pDo l ops) → Q s' (pErr l ops) h') : CallF PG fn_plain_Do [sval s, sval t] (.tup [.leaf .sl, .leaf (.int .i64)]) h Q := by
  refine call_plain_Do (ct_plain_Check a (by omega) (fun r h1 x1 => Br.f rfl ?_) fun nr h1 x1 => Br.t rfl ?_)
  rotate_left
  · have e : pErr l ops = 11 := if_neg nr
    have := q ⟨none, 0, 0⟩ h1 x1 (by unfold pDo; rw [e]; exact OwnP.nil _ _)
    rw [e] at this; exact this
  have e : pErr l ops = pBatch ops := if_pos r
  refine ct_batch_Check (b.ext x1) hol hok fun h2 x2 => Br.mk (fun hne => ?_) fun heq => ?_
  · have hne : pBatch ops ≠ 0 := by simpa using hne
    have := q ⟨none, 0, 0⟩ h2 (x1.trans (x2.less x1.size)) (by unfold pDo; rw [e, if_neg hne]; exact OwnP.nil _ _)
    rw [e] at this; exact this
  have heq : pBatch ops = 0 := by simpa using heq
  obtain ⟨hn32, hops⟩ := pBatch_zero heq
  have x2 : Ext h.size h h2 := x1.trans (x2.less x1.size)
  have q : ∀ s' h', Ext h.size h h' → OwnP h' h.size s' (doAll l ops) → Q s' 0 h' := fun s' h' x o => by
    have := q s' h' x (by unfold pDo; rw [e, if_pos heq]; exact o)
    rw [e, heq] at this; exact this
  have hs := r.short
  refine ⟨fun t n h' => ∃ i : Nat, n = (i : Int) ∧ i ≤ l.length ∧ Ext h.size h h' ∧ OwnP h' h.size t (l.take i), fun _ n _ => l.length - n.toNat, ⟨0, rfl, Nat.zero_le _, x2, OwnP.nil _ _⟩, ?_⟩
  rintro _ out n h1 ⟨i, rfl, hi, x, o⟩
  refine Br.mk (fun h3 => ?_) fun h3 => ?_
  · simp only [decide_eq_true_eq] at h3
    rw [a.len] at h3
    obtain ⟨p, hp⟩ : ∃ p, l[i]? = some p := ⟨_, List.getElem?_eq_getElem (by omega)⟩
    obtain ⟨ad, ha, v, hc, hb⟩ := (a.ext x).at_ i p hp
    refine Idx.mk ha (by rw [a.len]; omega) ?_
    rw [nat_mul]
    refine Ld.pair hc (New.go fun h3 _ x3 z3 r3 => St.pair (v0 := ⟨none, 0, 0⟩) r3 fun h4 u4 r4 => Ld.pair (Cells.whole r4) ?_)
    have x4 : Ext h1.size h1 h4 := x3.trans (u4.ext (Nat.le_refl _))
    refine ct_own (hb.ext x4) (hs i p hp) fun w h5 x5 ow => New.go fun h6 _ x6 z6 r6 => ?_
    have xx : Ext h1.size h1 h6 := x4.trans ((x5.less x4.size).trans (x6.less (Nat.le_trans x4.size x5.size)))
    have hB : h.size ≤ h6.size := Nat.le_trans x.size xx.size
    refine OwnP.push (p := p) (v := w) hB (o.ext xx) (Cells.whole r6) ((Owns.ext ow x6).base (Nat.le_trans x.size x4.size)) (by rw [List.length_take, Nat.min_eq_left hi]; omega) fun s' h' o' e' g' => ?_
    rw [wrap_succ (by omega)]
    refine ⟨⟨i + 1, rfl, by omega, x.trans ((xx.less x.size).trans e'), ?_⟩, by simp only [Int.toNat_natCast]; omega⟩
    rw [List.take_add_one, hp]; exact o'
  · simp only [decide_eq_false_iff_not] at h3
    rw [a.len] at h3
    have : i = l.length := by omega
    rw [this, List.take_length] at o
    clear this h3 hi i
    refine ⟨fun t n h' => ∃ i : Nat, n = (i : Int) ∧ i ≤ ops.length ∧ Ext h.size h h' ∧ OwnP h' h.size t (doAll l (ops.take i)), fun _ n _ => ops.length - n.toNat, ⟨0, rfl, Nat.zero_le _, x, o⟩, ?_⟩
    clear o x
    rintro _ out n h1 ⟨i, rfl, hi, x, o⟩
    refine Br.mk (fun h3 => ?_) fun h3 => ?_
    · simp only [decide_eq_true_eq] at h3
      rw [b.len] at h3
      obtain ⟨p, hp⟩ : ∃ p, ops[i]? = some p := ⟨_, List.getElem?_eq_getElem (by omega)⟩
      have hpk := hops p (List.mem_of_getElem? hp)
      have hpl : p.val.length ≤ 4096 := by
        have := hpk.1
        simp only [oOk, Bool.and_eq_true, decide_eq_true_eq] at this
        exact this.2
      have hops' : ∀ o ∈ ops.take i, oOk o = true := fun o ho => (hops o (List.mem_of_mem_take ho)).1
      have rr := r.doAll hops'
      have hll := doAll_length r hops'
      have hll' : (doAll l (ops.take i)).length ≤ l.length + 31 := by rw [List.length_take] at hll; omega
      have hnext : doAll l (ops.take (i + 1)) = doOne (doAll l (ops.take i)) p := by rw [List.take_add_one, hp, ← doAll_snoc]; rfl
      generalize doAll l (ops.take i) = m at rr hll' hnext o
      obtain ⟨ad, ha, v, hc, hb⟩ := (b.ext x).at_ i p hp
      refine Idx.mk ha (by rw [b.len]; omega) ?_
      rw [nat_mul]
      refine Ld.op hc (New.go fun h3 _ x3 z3 r3 => St.op (v0 := ⟨none, 0, 0⟩) r3 fun h4 u4 r4 => Ld.key (row_cell r4 rfl) ?_)
      have x4 : Ext h1.size h1 h4 := x3.trans (u4.ext (Nat.le_refl _))
      have z4 : h4.size = h1.size + 1 := by rw [u4.size, z3]
      refine ct_place (o.ext x4).pairs rr (by omega) fun n is h5 x5 pl his => ?_
      have r5 : h5[h1.size]? = some (.cells #[.string p.key, sval v, .bool p.del] ty_api_Op (0, 0)) := (x5.block _ (by omega)).trans r4
      have x15 : Ext h1.size h1 h5 := x4.trans (x5.less x4.size)
      have o5 := o.ext x15
      have hb5 := hb.ext x15
      have hB5 : h.size ≤ h5.size := Nat.le_trans x.size x15.size
      have x05 : Ext h.size h h5 := x.trans (x15.less x.size)
      have hlen5 := o5.len
      have fin : ∀ s' h', OwnP h' h.size s' (doOne m p) → Ext h.size h5 h' → (∃ k : Nat, IntKind.i64.wrap ((i : Int) + 1) = (k : Int) ∧ k ≤ ops.length ∧ Ext h.size h h' ∧ OwnP h' h.size s' (doAll l (ops.take k))) ∧ ops.length - (IntKind.i64.wrap ((i : Int) + 1)).toNat < ops.length - (i : Int).toNat := by
        intro s' h' o' x'
        rw [wrap_succ (by omega)]
        exact ⟨⟨i + 1, rfl, by omega, x05.trans x', by rw [hnext]; exact o'⟩, by simp only [Int.toNat_natCast]; omega⟩
      refine ⟨fun c h' => c = (is && p.del) ∧ h' = h5, ?_, ?_⟩
      · rintro _ c h' ⟨rfl, e⟩
        obtain rfl := e.symm
        cases is with
        | true =>
          obtain ⟨p', hp', hk'⟩ := his.1 rfl
          have hnm := (List.getElem?_eq_some_iff.1 hp').1
          cases hd : p.del with
          | true =>
            refine Br.t rfl ?_
            rw [wrap_succ (by omega)]
            refine ct_Delete hB5 o5 hnm fun s' h' o' x' => fin s' h' ?_ x'
            rw [← pl.delSome rr hp' hk' hd]; exact o'
          | false =>
            refine Br.f rfl (Br.t rfl (Ld.bytes (v := v) (by rw [add_off]; exact row_cell r5 rfl) (ct_Clone hb5 (by omega) fun w h6 x6 ow => ?_)))
            obtain ⟨a6, ha6, hst⟩ := OwnP.setVal (o5.ext x6) hp' (Owns.base ow hB5) (K := fun h' => (∃ k : Nat, IntKind.i64.wrap ((i : Int) + 1) = (k : Int) ∧ k ≤ ops.length ∧ Ext h.size h h' ∧ OwnP h' h.size out (doAll l (ops.take k))) ∧ ops.length - (IntKind.i64.wrap ((i : Int) + 1)).toNat < ops.length - (i : Int).toNat) fun h' o' x' => fin out h' (by
              rw [← pl.putSome rr hp' hk' hd, ← set_split _ hnm, ← hk']; exact o') ((x6.less hB5).trans x')
            refine Idx.mk ha6 (by rw [hlen5]; omega) ?_
            rw [nat_mul]
            exact hst
        | false =>
          have hno : ∀ p', m[n]? = some p' → p'.key ≠ p.key := fun p' hp' hk' => by have := his.2 ⟨p', hp', hk'⟩; cases this
          refine Br.f rfl (Br.f rfl (Ld.flag (v := p.del) (by rw [add_off]; exact row_cell r5 rfl) ?_))
          cases hd : p.del with
          | true =>
            refine Br.f rfl (fin out h5 ?_ (Ext.refl _ _))
            rw [← pl.delNone rr hno hd]; exact o5
          | false =>
            refine Br.t rfl (Ld.key (row_cell r5 rfl) (Ld.bytes (v := v) (by rw [add_off]; exact row_cell r5 rfl) (ct_own hb5 (by omega) fun w h6 x6 ow => New.go fun h7 _ x7 z7 r7 => ?_)))
            have x57 : Ext h5.size h5 h7 := x6.trans (x7.less x6.size)
            refine ct_Insert (p := ⟨p.key, p.val⟩) (v := w) (Nat.le_trans hB5 x57.size) (o5.ext x57) pl.le (by omega) r7 (fun a' ha' => ?_) ((Owns.ext ow x7).base hB5) fun s' h' o' x' => fin s' h' ?_ ((x57.less hB5).trans x')
            · obtain ⟨hl', oo, _⟩ := o5.ext x6
              have := (oo.blk ha').2.1
              omega
            · rw [← pl.putNone rr hno hd]; exact o'
      · cases is with
        | true => exact Br.t rfl (Ld.flag (v := p.del) (by rw [add_off]; exact row_cell r5 rfl) ⟨rfl, rfl⟩)
        | false => exact Br.f rfl ⟨rfl, rfl⟩
    · simp only [decide_eq_false_iff_not] at h3
      rw [b.len] at h3
      have : i = ops.length := by omega
      rw [this, List.take_length] at o
      exact q out h1 x o
end
end Go.Dn.W
