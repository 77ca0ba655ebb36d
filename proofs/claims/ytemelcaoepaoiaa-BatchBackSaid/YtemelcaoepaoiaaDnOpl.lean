/- Lists of operations: held against each other, copied; lists of pairs spoiled. -/
import Derived.Test.YtemelcaoepaoiaaDnLst
import Derived.Lib.SlBytesConst
set_option linter.unusedVariables false
namespace Go.Dn.W
open Go Go.Dn Go.Proofs

theorem info_op : infoOk PG ty_api_Op 3 48 = true := by kernel_rfl

/-- an operation's cells, its value of its own -/
def EOp : ElemRel Opn := fun h B cs o => ∃ v : Sl, cs = ocells o.key v o.del ∧ OwnB h B ty_uint8 v o.val
theorem EOp.stab : Stab EOp := fun _ _ _ _ _ ⟨v, e, o⟩ k => ⟨v, e, OwnB.keep o k⟩
theorem EOp.base {h : Mem} {B B0 : Nat} (hB : B0 ≤ B) (cs : List Value) (x : Opn) : EOp h B cs x → EOp h B0 cs x := fun ⟨v, e, o⟩ => ⟨v, e, Owns.base o hB⟩
abbrev OwnO (h : Mem) (B : Nat) (s : Sl) (l : List Opn) : Prop := OwnL ty_api_Op 3 EOp h B B s l

section
variable {h : Mem}

theorem OwnL.ops {B' B : Nat} {s : Sl} {l : List Opn} (x : OwnL ty_api_Op 3 EOp h B' B s l) : OpsAt h s l := by
  refine ⟨x.len (by decide), fun i o ho => ?_, fun hn => ?_⟩
  · obtain ⟨a, cs, ha, hc, ⟨v, rfl, hv⟩, _⟩ := x.get (by decide) ho
    exact ⟨a, ha, v, hc, hv.bytes⟩
  · obtain ⟨css, o, _⟩ := x
    exact (Owns.nil0 o hn).2

theorem ct_Op {k m : ByteArray} {s t : Sl} {u v : List UInt8} {d e : Bool} {Q : Bool → Mem → Prop} (b : BytesSl h s u) (c : BytesSl h t v) (q : ∀ h', Ext h.size h h' → Q (decide (k = m ∧ u = v ∧ d = e)) h') :
    CallF PG fn_dunnagehelp_Op [.agg #[.string k, sval s, .bool d], .agg #[.string m, sval t, .bool e]] (.one (.leaf .bool)) h Q := by
  refine call_dunnagehelp_Op (New.go fun h1 _ x1 z1 r1 => New.go fun h2 _ x2 z2 r2 => ?_)
  have r1' : h2[h.size]? = _ := (x2.block _ (by omega)).trans r1
  have x := x1.trans (x2.less x1.size)
  refine Ld.key (row_cell r1' rfl) (Ld.key (row_cell r2 rfl) (Br.mk (fun e1 => ?_) fun e1 => ?_))
  · refine Ld.bytes (v := s) (by rw [add_off]; exact row_cell r1' rfl) (Ld.bytes (v := t) (by rw [add_off]; exact row_cell r2 rfl) (ct_Bytes (b.ext x) (c.ext x) (Br.mk (fun e2 => ?_) fun e2 => ?_)))
    · simp only [decide_eq_true_eq] at e2
      refine Ld.flag (v := d) (by rw [add_off]; exact row_cell r1' rfl) (Ld.flag (v := e) (by rw [add_off]; exact row_cell r2 rfl) ?_)
      have : (d == e) = decide (k = m ∧ u = v ∧ d = e) := by simp [sEq_iff.1 e1, e2]; cases d <;> cases e <;> rfl
      rw [this]; exact q _ x
    · simp only [decide_eq_false_iff_not] at e2
      have : false = decide (k = m ∧ u = v ∧ d = e) := by simp [e2]
      rw [this]; exact q _ x
  · have : false = decide (k = m ∧ u = v ∧ d = e) := by simp [sEq_false.1 e1]
    rw [this]; exact q _ x

theorem ct_Ops {s t : Sl} {l m : List Opn} {Q : Bool → Mem → Prop} (a : OpsAt h s l) (b : OpsAt h t m) (hl : l.length ≤ 140737488355328) (q : ∀ h', Ext h.size h h' → Q (decide (l = m)) h') :
    CallF PG fn_dunnagehelp_Ops [sval s, sval t] (.one (.leaf .bool)) h Q := by
  refine call_dunnagehelp_Ops (call_dunnagehelp_Same_api_Op_ (Br.mk (fun hne => ?_) fun heq => ?_))
  · have : false = decide (l = m) := by
      symm; rw [decide_eq_false_iff_not]
      rintro rfl
      rw [a.len, b.len] at hne; simp at hne
    rw [this]; exact q _ (Ext.refl _ _)
  · have hlm : l.length = m.length := by
      have := a.len; have := b.len
      simp only [bne_eq_false_iff_eq] at heq
      omega
    refine ⟨fun n h' => ∃ i : Nat, n = (i : Int) ∧ i ≤ l.length ∧ l.take i = m.take i ∧ Ext h.size h h', fun n _ => l.length - n.toNat, ⟨0, rfl, Nat.zero_le _, rfl, Ext.refl _ _⟩, ?_⟩
    rintro _ n h1 ⟨i, rfl, hi, he, x⟩
    refine Br.mk (fun h2 => ?_) fun h2 => ?_
    · simp only [decide_eq_true_eq] at h2
      rw [a.len] at h2
      obtain ⟨p, hp⟩ : ∃ p, l[i]? = some p := ⟨_, List.getElem?_eq_getElem (by omega)⟩
      obtain ⟨p', hp'⟩ : ∃ p, m[i]? = some p := ⟨_, List.getElem?_eq_getElem (by omega)⟩
      obtain ⟨ad, ha, v, hc, hb⟩ := (a.ext x).at_ i p hp
      obtain ⟨ad', ha', v', hc', hb'⟩ := (b.ext x).at_ i p' hp'
      refine Idx.mk ha (by rw [a.len]; omega) ?_
      rw [nat_mul]
      refine Ld.op hc (Idx.mk ha' (by rw [b.len]; omega) ?_)
      refine Ld.op hc' (callV_fn (ct_Op hb hb' fun h3 x3 => Br.mk (fun h4 => ?_) fun h4 => ?_))
      · have : false = decide (l = m) := by
          symm; rw [decide_eq_false_iff_not]
          rintro rfl
          rw [hp] at hp'; cases hp'
          simp at h4
        rw [this]; exact q _ (x.trans (x3.less x.size))
      · simp only [Bool.not_eq_false', decide_eq_true_eq] at h4
        have hpp : p = p' := by cases p; cases p'; simp_all
        rw [wrap_succ (by omega)]
        exact ⟨⟨i + 1, rfl, by omega, take_eq_succ hp hp' he hpp, x.trans (x3.less x.size)⟩, by simp only [Int.toNat_natCast]; omega⟩
    · simp only [decide_eq_false_iff_not] at h2
      rw [a.len] at h2
      have hi' : i = l.length := by omega
      have : true = decide (l = m) := by
        symm; rw [decide_eq_true_eq]
        rw [hi', List.take_length, hlm, List.take_length] at he
        exact he
      rw [this]; exact q _ x

def ShortO (l : List Opn) : Prop := ∀ (i : Nat) (p : Opn), l[i]? = some p → p.val.length ≤ 140737488355328

theorem ct_CopyOps {s : Sl} {l : List Opn} {Q : Sl → Mem → Prop} (a : OpsAt h s l) (hs : ShortO l) (hl : l.length * 48 ≤ 140737488355328) (q : ∀ s' h', Ext h.size h h' → OwnO h' h.size s' l → Q s' h') :
    CallF PG fn_dunnagehelp_CopyOps [sval s] (.one (.leaf .sl)) h Q := by
  refine call_dunnagehelp_CopyOps ?_
  refine ⟨fun t n h' => ∃ i : Nat, n = (i : Int) ∧ i ≤ l.length ∧ Ext h.size h h' ∧ OwnO h' h.size t (l.take i), fun _ n _ => l.length - n.toNat, ⟨0, rfl, Nat.zero_le _, Ext.refl _ _, OwnL.nil _ _ _ _ _ _⟩, ?_⟩
  rintro _ t n h1 ⟨i, rfl, hi, x, o⟩
  refine Br.mk (fun h2 => ?_) fun h2 => ?_
  · simp only [decide_eq_true_eq] at h2
    rw [a.len] at h2
    obtain ⟨p, hp⟩ : ∃ p, l[i]? = some p := ⟨_, List.getElem?_eq_getElem (by omega)⟩
    obtain ⟨ad, ha, v, hc, hb⟩ := (a.ext x).at_ i p hp
    have hk : cellAt h1 (ad.add (i * 3)) = some (.string p.key) := hc 0 _ rfl
    have hv : cellAt h1 ((ad.add (i * 3)).add 1) = some (sval v) := hc 1 _ rfl
    have hd : cellAt h1 ((ad.add (i * 3)).add 2) = some (.bool p.del) := hc 2 _ rfl
    have ix : ∀ K, K (ad) → Idx s.a s.len (i : Int) K := fun K k => Idx.mk ha (by rw [a.len]; omega) k
    refine ix _ ?_
    rw [nat_mul]
    refine Ld.key hk (ix _ (Ld.bytes hv (ix _ (Ld.flag hd (ct_CopyBytes hb (hs i p hp) fun w h3 x3 ow => ⟨Ld.flag (x3.cellAt (cellAt_lt hd) hd) rfl, Ld.key (x3.cellAt (cellAt_lt hk) hk) rfl, New.go fun h4 _ x4 z4 r4 => ?_⟩)))))
    have xx : Ext h1.size h1 h4 := x3.trans (x4.less x3.size)
    have hB : h.size ≤ h4.size := Nat.le_trans x.size xx.size
    refine OwnL.push (bytes := 48) und_ops info_op (by decide) EOp.stab hB (o.ext EOp.stab xx) (Cells.whole (cs := ocells p.key w p.del) r4) rfl (one_ocells _ _ _) ⟨w, rfl, (Owns.ext ow x4).base x.size⟩ (by decide) (by decide) (by rw [List.length_take, Nat.min_eq_left hi]; omega) fun s' h' o' e' g' _ => ?_
    rw [wrap_succ (by omega)]
    refine ⟨⟨i + 1, rfl, by omega, x.trans ((xx.less x.size).trans e'), ?_⟩, by simp only [Int.toNat_natCast]; omega⟩
    rw [List.take_add_one, hp]; exact o'
  · simp only [decide_eq_false_iff_not] at h2
    rw [a.len] at h2
    have : i = l.length := by omega
    rw [this, List.take_length] at o
    exact q _ _ x o

/-- the values of so many pairs are bytes that a function has made -/
def SpoilP (h : Mem) (B : Nat) (s : Sl) (n : Nat) : Prop := ∀ i, i < n → ∃ a v, s.a = some a ∧ cellAt h ((a.add (i * 2)).add 1) = some (sval v) ∧ SomeB h B ty_uint8 v ∧ v.len ≤ 140737488355328
theorem SpoilP.spoilt {h h' : Mem} {B B0 : Nat} {s : Sl} {n : Nat} (x : SpoilP h B s n) (y : Spoilt B0 h h') : SpoilP h' B s n := fun i hi =>
  let ⟨a, v, h1, h2, h3, h4⟩ := x i hi; ⟨a, v, h1, y.cell h2 fun b => by unfold bcell; simp, y.someB h3, h4⟩
theorem OwnP.spoil {B : Nat} {s : Sl} {l : List Pr} (o : OwnP h B s l) (hs : Short l) : SpoilP h B s l.length := fun i hi => by
  obtain ⟨p, hp⟩ : ∃ p, l[i]? = some p := ⟨_, List.getElem?_eq_getElem hi⟩
  obtain ⟨a, v, ha, hc, hv⟩ := o.get hp
  exact ⟨a, v, ha, hc 1 _ rfl, ⟨_, hv⟩, by rw [hv.len]; exact hs i p hp⟩
theorem spoil_all {B : Nat} {s : Sl} {n : Nat} (o : SpoilP h B s n) (hlen : s.len = n) (hl : n ≤ 140737488355328) {K : Mem → Prop} (k : ∀ h', Spoilt B h h' → K h') :
    ∃ (I17 : Int → Mem → Prop), ∃ (I18 : Int → Mem → Nat), I17 0 h ∧ ∀ (j19 : Fr) (n20 : Int) (h21 : Mem), I17 n20 h21 →
      Br (decide (n20 < (↑s.len : Int)))
        (Idx s.a s.len n20 fun (p22 : Addr) =>
          Ld PG ty_sl_uint8 ((p22.add (n20.toNat * 2)).add 1) (Kd.one (Cmp.leaf Leaf.sl)) h21 fun (s23 : Sl) =>
            CallF PG fn_dunnagehelp_Spoil [Value.slice s23.a s23.len s23.cap] (Kd.tup []) h21 fun (h24 : Mem) =>
              I17 (IntKind.i64.wrap (n20 + 1)) h24 ∧ I18 (IntKind.i64.wrap (n20 + 1)) h24 < I18 n20 h21)
        (K h21) := by
  refine ⟨fun m h' => ∃ i : Nat, m = (i : Int) ∧ i ≤ n ∧ Spoilt B h h', fun m _ => n - m.toNat, ⟨0, rfl, Nat.zero_le _, Spoilt.refl _ _⟩, ?_⟩
  rintro _ m h1 ⟨i, rfl, hi, x⟩
  refine Br.mk (fun h2 => ?_) fun _ => k _ x
  simp only [decide_eq_true_eq] at h2
  rw [hlen] at h2
  obtain ⟨a, v, ha, hc, hv, hvl⟩ := (o.spoilt x) i (by omega)
  refine Idx.mk ha (by omega) ?_
  rw [nat_mul]
  refine Ld.bytes (v := v) hc (ct_Spoil hv hvl fun h3 x3 => ?_)
  rw [wrap_succ (by omega)]
  exact ⟨⟨i + 1, rfl, by omega, x.trans x3⟩, by simp only [Int.toNat_natCast]; omega⟩
theorem spoil_pairs {B : Nat} {s : Sl} {l : List Pr} (o : OwnP h B s l) (hl : l.length ≤ 140737488355328) (hs : Short l) {K : Mem → Prop} (k : ∀ h', Spoilt B h h' → K h') :
    ∃ (I17 : Int → Mem → Prop), ∃ (I18 : Int → Mem → Nat), I17 0 h ∧ ∀ (j19 : Fr) (n20 : Int) (h21 : Mem), I17 n20 h21 →
      Br (decide (n20 < (↑s.len : Int)))
        (Idx s.a s.len n20 fun (p22 : Addr) =>
          Ld PG ty_sl_uint8 ((p22.add (n20.toNat * 2)).add 1) (Kd.one (Cmp.leaf Leaf.sl)) h21 fun (s23 : Sl) =>
            CallF PG fn_dunnagehelp_Spoil [Value.slice s23.a s23.len s23.cap] (Kd.tup []) h21 fun (h24 : Mem) =>
              I17 (IntKind.i64.wrap (n20 + 1)) h24 ∧ I18 (IntKind.i64.wrap (n20 + 1)) h24 < I18 n20 h21)
        (K h21) := spoil_all (o.spoil hs) o.len hl k

/-! ### the bytes of pairs -/

def prSum : List Pr → Nat
  | [] => 0
  | p :: l => p.key.size + p.val.length + prSum l
theorem prSum_append : ∀ a b : List Pr, prSum (a ++ b) = prSum a + prSum b
  | [], b => by simp [prSum]
  | o :: a, b => by simp [prSum, prSum_append a b]; omega
theorem prSum_le {l : List Pr} (h : ∀ p ∈ l, pOk p = true) : prSum l ≤ l.length * 4160 := by
  induction l with
  | nil => simp [prSum]
  | cons p l ih =>
    have h1 := ih fun q hq => h q (by simp [hq])
    have h2 := h p (by simp)
    simp only [pOk, Bool.and_eq_true, decide_eq_true_eq] at h2
    have := pMay_size h2.1
    simp only [prSum, List.length_cons]
    omega
theorem prSum_take {l : List Pr} (r : Right l) (i : Nat) (hl : l.length ≤ 140737488355328) : prSum (l.take i) ≤ 585467951558164480 := by
  have := prSum_le (l := l.take i) fun p hp => (Right.iff.1 r).1 p (List.mem_of_mem_take hp)
  rw [List.length_take] at this
  have : min i l.length * 4160 ≤ 140737488355328 * 4160 := Nat.mul_le_mul_right _ (by omega)
  omega
/-- how many bytes pairs have: none, if they are not in order -/
def pBytes (l : List Pr) : Int := if Right l then (prSum l : Int) else 0

theorem ct_plain_Bytes {s : Sl} {l : List Pr} {Q : Int → Mem → Prop} (a : PairsAt h s l) (hl : l.length ≤ 140737488355328) (q : ∀ h', Ext h.size h h' → Q (pBytes l) h') :
    CallF PG fn_plain_Bytes [sval s] (.one (.leaf (.int .i64))) h Q := by
  refine call_plain_Bytes (ct_plain_Check a hl (fun r h1 x1 => Br.f rfl ?_) fun nr h1 x1 => Br.t rfl ?_)
  · have q : ∀ h', Ext h.size h h' → Q (prSum l : Int) h' := fun h' x => by have := q h' x; unfold pBytes at this; rw [if_pos r] at this; exact this
    refine ⟨fun n m h' => ∃ i : Nat, m = (i : Int) ∧ n = ((prSum (l.take i) : Nat) : Int) ∧ i ≤ l.length ∧ Ext h.size h h', fun _ n _ => l.length - n.toNat, ⟨0, rfl, rfl, Nat.zero_le _, x1⟩, ?_⟩
    rintro _ n m h2 ⟨i, rfl, rfl, hi, x⟩
    refine Br.mk (fun h3 => ?_) fun h3 => ?_
    · simp only [decide_eq_true_eq] at h3
      rw [a.len] at h3
      obtain ⟨p, hp⟩ : ∃ p, l[i]? = some p := ⟨_, List.getElem?_eq_getElem (by omega)⟩
      obtain ⟨ad, ha, v, hc, hb⟩ := (a.ext x).at_ i p hp
      refine Idx.mk ha (by rw [a.len]; omega) ?_
      rw [nat_mul]
      refine Ld.pair hc (New.go fun h3 _ x3 z3 r3 => St.pair (v0 := ⟨none, 0, 0⟩) r3 fun h4 u4 r4 => ?_)
      have x4 : Ext h2.size h2 h4 := x3.trans (u4.ext (Nat.le_refl _))
      refine Ld.key (row_cell r4 rfl) (Ld.bytes (v := v) (by rw [add_off]; exact row_cell r4 rfl) ?_)
      have e1 : prSum (l.take (i + 1)) = prSum (l.take i) + (p.key.size + p.val.length) := by
        rw [List.take_add_one, hp, prSum_append]; simp [prSum]
      have b1 := prSum_take r (i + 1) hl
      have e2 : IntKind.i64.wrap (((prSum (l.take i) : Nat) : Int) + IntKind.i64.wrap ((p.key.size : Int) + (v.len : Int))) = ((prSum (l.take (i + 1)) : Nat) : Int) := by
        rw [hb.len, i64_eq (n := (p.key.size : Int) + _) (by omega) (by omega), i64_eq (by omega) (by omega)]
        omega
      rw [e2, wrap_succ (by omega)]
      exact ⟨⟨i + 1, rfl, rfl, by omega, x.trans (x4.less x.size)⟩, by simp only [Int.toNat_natCast]; omega⟩
    · simp only [decide_eq_false_iff_not] at h3
      rw [a.len] at h3
      have e : i = l.length := by omega
      rw [e, List.take_length]
      exact q _ x
  · have := q h1 x1
    unfold pBytes at this
    rw [if_neg nr] at this
    exact this

theorem ct_ref_Bytes {s : Sl} {l : List Pr} {Q : Int → Mem → Prop} (a : PairsAt h s l) (hl : l.length ≤ 140737488355328) (q : Q (pBytes l) h) :
    CallF PG fn_dunnageref11_Bytes [sval s] (.one (.leaf (.int .i64))) h Q := by
  refine call_dunnageref11_Bytes ?_
  unfold pBytes at q
  refine ⟨fun n m h' => ∃ i : Nat, m = (i : Int) ∧ (i ≠ 0 → Right l) ∧ n = ((prSum (l.take i) : Nat) : Int) ∧ i ≤ l.length ∧ h' = h, fun _ n _ => l.length - n.toNat, ⟨0, rfl, fun h => absurd rfl h, rfl, Nat.zero_le _, rfl⟩, ?_⟩
  rintro _ n m h2 ⟨i, rfl, hr, rfl, hi, rfl⟩
  refine ct_ref_Right a hl (Br.mk (fun r => ?_) fun nr => ?_)
  · have r : Right l := by simpa using r
    rw [if_pos r] at q
    refine Br.mk (fun h3 => ?_) fun h3 => ?_
    · simp only [decide_eq_true_eq] at h3
      rw [a.len] at h3
      obtain ⟨p, hp⟩ : ∃ p, l[i]? = some p := ⟨_, List.getElem?_eq_getElem (by omega)⟩
      obtain ⟨ad, ha, v, hc, hb⟩ := a.at_ i p hp
      have hk : cellAt h2 (ad.add (i * 2)) = some (.string p.key) := hc 0 _ rfl
      have hv : cellAt h2 ((ad.add (i * 2)).add 1) = some (sval v) := hc 1 _ rfl
      refine Idx.mk ha (by rw [a.len]; omega) ?_
      rw [nat_mul]
      refine Ld.key hk (Idx.mk ha (by rw [a.len]; omega) (Ld.bytes (v := v) hv ?_))
      have e1 : prSum (l.take (i + 1)) = prSum (l.take i) + (p.key.size + p.val.length) := by
        rw [List.take_add_one, hp, prSum_append]; simp [prSum]
      have b1 := prSum_take r (i + 1) hl
      have e2 : IntKind.i64.wrap (IntKind.i64.wrap (((prSum (l.take i) : Nat) : Int) + (p.key.size : Int)) + (v.len : Int)) = ((prSum (l.take (i + 1)) : Nat) : Int) := by
        rw [hb.len, i64_eq (n := ((prSum (l.take i) : Nat) : Int) + _) (by omega) (by omega), i64_eq (by omega) (by omega)]
        omega
      rw [e2, wrap_succ (by omega)]
      exact ⟨⟨i + 1, rfl, fun _ => r, rfl, by omega, rfl⟩, by simp only [Int.toNat_natCast]; omega⟩
    · simp only [decide_eq_false_iff_not] at h3
      rw [a.len] at h3
      have e : i = l.length := by omega
      rw [e, List.take_length]
      exact q
  · have nr : ¬ Right l := by simpa using nr
    have hi0 : i = 0 := by
      by_cases h0 : i = 0
      · exact h0
      · exact absurd (hr h0) nr
    subst hi0
    rw [if_neg nr] at q
    exact q
end

/-! ### a program that does something -/
section
variable {h : Mem}
theorem doAwake : pErr [] [⟨⟨#[97]⟩, [49], false⟩] = 0 ∧ pDo [] [⟨⟨#[97]⟩, [49], false⟩] = [⟨⟨#[97]⟩, [49]⟩] := by
  have e : pErr [] [⟨⟨#[97]⟩, [49], false⟩] = 0 := by
    unfold pErr
    rw [if_pos Right.nil]
    decide
  refine ⟨e, ?_⟩
  unfold pDo
  rw [if_pos e]
  rfl
theorem bytesAwake : pBytes [⟨⟨#[97]⟩, [49]⟩] = 2 := by
  unfold pBytes
  rw [if_pos]
  · rfl
  · refine Right.iff.2 ⟨fun p hp => ?_, by simp⟩
    simp only [List.mem_cons, List.not_mem_nil, or_false] at hp
    subst hp; decide

/-- bytes that stand in the text -/
theorem bytes_const {l : List UInt8} {n c : Nat} {K : Sl → Mem → Prop} (hn : n = l.length) (hk : ∀ h' : Mem, Ext h.size h h' → h'.size = h.size + 1 → BytesSl h' ⟨some ⟨h.size, 0, none⟩, n, c⟩ l → K ⟨some ⟨h.size, 0, none⟩, n, c⟩ h') :
    New (Obj.cells (l.map bcell).toArray ty_uint8 (0, 0)) h fun (k1 : Nat) (h2 : Mem) => PrimT PG (convert ty_sl_uint8 ty_sl_uint8 (Value.slice (some (Addr.mk k1 0 none)) n c)) (Kd.one (Cmp.leaf Leaf.sl)) h2 K := by
  refine New.go fun h1 e1 x1 z1 r1 => ?_
  intro w hw
  have hww : w = ({ w with heap := h } : World).alloc (.cells (l.map bcell).toArray ty_uint8) := by
    cases w
    simp only at hw
    subst hw
    rw [e1]; rfl
  rw [hww]
  refine ⟨_, _, Lib.run_convert_bytes_const ({ w with heap := h } : World) ty_sl_uint8 ty_uint8 (l.map bcell).toArray n c und_bytes und_u8, ⟨rfl, rfl, rfl⟩, [_], rfl, ⟨some ⟨h.size, 0, none⟩, n, c⟩, .sl _ _ _, ?_⟩
  refine hk _ (Ext.push _ _ (Nat.le_refl _)) (by simp [World.alloc]) ⟨hn, fun i b hb => ?_, fun hn => by cases hn⟩
  refine Cells.row (cs := l.map bcell) (push_get_size _ _) (fun j v hv => by simpa using hv) i _ ?_
  rw [List.getElem?_map, hb]; rfl

theorem PairsAt.isNil (h : Mem) : PairsAt h ⟨none, 0, 0⟩ [] := ⟨rfl, fun i p hp => by simp at hp, fun _ => rfl⟩
theorem ct_awake11 {Q : Bool → Mem → Prop} (q : ∀ h', Ext h.size h h' → Q true h') : CallF PG fn_dunnagelaw11_awake [] (.one (.leaf .bool)) h Q := by
  refine call_dunnagelaw11_awake (bytes_const (l := [49]) rfl fun h1 x1 z1 b1 => New.go fun h2 _ x2 z2 r2 => ?_)
  have o : OpsAt h2 ⟨some ⟨h1.size, 0, none⟩, 1, 1⟩ [⟨⟨#[97]⟩, [49], false⟩] := ⟨rfl, fun i b hb => by
    match i, hb with
    | 0, hb => cases hb; exact ⟨_, rfl, ⟨some ⟨h.size, 0, none⟩, 1, 1⟩, Cells.whole r2, b1.ext x2⟩
    | i + 1, hb => simp at hb, fun hn => by cases hn⟩
  refine ct_plain_Do (PairsAt.isNil h2) o (by simp) (by simp) (fun i b hb => ?_) fun s' h3 x3 o3 => ?_
  · match i, hb with
    | 0, hb => cases hb; decide
    | i + 1, hb => simp at hb
  · rw [doAwake.1]
    rw [doAwake.2] at o3
    refine Br.t rfl (Br.t (by rw [o3.len]; rfl) (ct_plain_Bytes o3.pairs (by simp) fun h4 x4 => ?_))
    rw [bytesAwake]
    exact q h4 (x1.trans ((x2.less x1.size).trans ((x3.less (Nat.le_trans x1.size x2.size)).trans (x4.less (Nat.le_trans x1.size (Nat.le_trans x2.size x3.size))))))
end
end Go.Dn.W
