/- The law of the last operations. -/
import Derived.Test.YtemelcaoepaoiaaDnL10a
set_option linter.unusedVariables false
namespace Go.Dn.W
open Go Go.Dn Go.Proofs

theorem lastOf_take {A : List Opn} {k : Nat} {o : Opn} (ho : A[k]? = some o) (key : ByteArray) : lastOf (A.take (k + 1)) key = if o.key = key then some o else lastOf (A.take k) key := by
  rw [List.take_add_one, ho, Option.toList_some, lastOf_snoc]

section
variable {h : Mem}
theorem law_BatchLast {sa sb : Sl} {A B : List Opn} {Q : Bool → Mem → Prop} (a : OpsIn h sa A ∧ sa.len ≤ 1048576) (b : OpsIn h sb B ∧ sb.len ≤ 1048576) (q : ∀ h', Ext h.size h h' → Q true h') : wp_dunnagelaw10_BatchLast sa sb h Q := by
  obtain ⟨a, la⟩ := a
  obtain ⟨b, lb⟩ := b
  have ea := a.at_.len
  have eb := b.at_.len
  have hka : ∀ o ∈ A, o.key.size ≤ 140737488355328 := fun o ho => Nat.le_trans (a.key o ho) (by decide)
  have hkb : ∀ o ∈ B, o.key.size ≤ 140737488355328 := fun o ho => Nat.le_trans (b.key o ho) (by decide)
  have hva : ∀ o ∈ A, o.val.length ≤ 140737488355328 := fun o ho => Nat.le_trans (a.val o ho) (by decide)
  have hvb : ∀ o ∈ B, o.val.length ≤ 140737488355328 := fun o ho => Nat.le_trans (b.val o ho) (by decide)
  have last : ∀ {h : Mem} {s : Sl} {l : List Opn} {Q : Sl → Mem → Prop}, OpsAt h s l → (∀ o ∈ l, o ∈ A ∨ o ∈ B) → l.length ≤ 4194304 → (∀ s' h', Ext h.size h h' → OwnO h' h.size s' (pLast l) → Q s' h') → CallF PG fn_batch_Last [sval s] (.one (.leaf .sl)) h Q :=
    fun x hx hl k => ct_batch_Last x (fun i o ho => (hx o (List.mem_of_getElem? ho)).elim (hva o) (hvb o)) (fun i o ho => (hx o (List.mem_of_getElem? ho)).elim (hka o) (hkb o)) (by omega) k
  have hpa := pLast_length A
  have hpb := pLast_length B
  have short : ∀ {l : List Opn}, (∀ o ∈ l, o ∈ A ∨ o ∈ B) → ShortO l := fun hx i o ho => (hx o (List.mem_of_getElem? ho)).elim (hva o) (hvb o)
  refine last a.at_ (fun o ho => .inl ho) (by omega) fun s1 h2 x2 o2 => ct_awake10 fun h4 x4 => ?_
  refine ⟨fun c h' => c = false ∧ Ext h4.size h4 h', ?_, ?_⟩
  rotate_left
  · refine Br.f rfl (last (o2.ext EOp.stab x4).ops (fun o ho => .inl (pLast_mem ho)) (by omega) fun s54 h55 x55 o55 => ?_)
    refine ct_Ops o55.ops ((o2.ext EOp.stab x4).ext EOp.stab x55).ops (by have := pLast_length (pLast A); omega) fun h57 x57 => ⟨?_, x55.after x57⟩
    rw [pLast_idem, decide_eq_true rfl]; rfl
  rintro _ c h8 ⟨rfl, x8⟩
  have x28 := x4.after x8
  have o8 := o2.ext EOp.stab x28
  have l8 := o8.len (by decide)
  refine Br.f rfl ?_
  refine ⟨fun n h' => ∃ i : Nat, n = (i : Int) ∧ i ≤ (pLast A).length ∧ Ext h8.size h8 h', fun n _ => (pLast A).length - n.toNat, ⟨0, rfl, Nat.zero_le _, Ext.refl _ _⟩, ?_⟩
  rintro _ n h13 ⟨i, rfl, hi, x13⟩
  have o13 := o8.ext EOp.stab x13
  have x013 := x2.after (x28.after x13)
  have a13 := a.at_.ext x013
  refine Br.mk (fun e1 => ?_) fun e1 => ?_
  · simp only [decide_eq_true_eq] at e1
    rw [l8] at e1
    obtain ⟨p, hp⟩ : ∃ p, (pLast A)[i]? = some p := ⟨_, List.getElem?_eq_getElem (by omega)⟩
    have hlast := ((pLast_is A).mem p).1 (List.mem_of_getElem? hp)
    obtain ⟨ad, had, v, hcv, hbv⟩ := o13.ops.at_ i p hp
    have ixl : ∀ K, K ad → Idx s1.a s1.len (i : Int) K := fun K k => Idx.mk had (by omega) k
    refine ⟨fun t k h' => ∃ k' : Nat, k = (k' : Int) ∧ k' ≤ A.length ∧ h' = h13 ∧ ((t = -1 ∧ lastOf (A.take k') p.key = none) ∨ ∃ (j : Nat) (o : Opn), t = (j : Int) ∧ j < k' ∧ A[j]? = some o ∧ lastOf (A.take k') p.key = some o), fun _ k _ => A.length - k.toNat,
      ⟨0, rfl, Nat.zero_le _, rfl, .inl ⟨rfl, rfl⟩⟩, ?_⟩
    rintro _ t k h19 ⟨k', rfl, hk', rfl, inv⟩
    refine Br.mk (fun e2 => ?_) fun e2 => ?_
    · simp only [decide_eq_true_eq] at e2
      rw [ea] at e2
      obtain ⟨o, ho⟩ : ∃ o, A[k']? = some o := ⟨_, List.getElem?_eq_getElem (by omega)⟩
      obtain ⟨ad2, had2, v2, hc2, _⟩ := a13.at_ k' o ho
      refine Idx.mk had2 (by omega) ?_
      rw [nat_mul]
      refine Ld.key (hc2 0 _ rfl) (ixl _ ?_)
      rw [nat_mul]
      refine Ld.key (hcv 0 _ rfl) ?_
      rw [wrap_succ (by omega)]
      refine Br.mk (fun e3 => ?_) fun e3 => ?_
      · have e3 : o.key = p.key := sEq_iff.1 e3
        exact ⟨⟨k' + 1, rfl, by omega, rfl, .inr ⟨k', o, rfl, by omega, ho, by rw [lastOf_take ho, if_pos e3]⟩⟩, by simp only [Int.toNat_natCast]; omega⟩
      · have e3 : o.key ≠ p.key := sEq_false.1 e3
        refine ⟨⟨k' + 1, rfl, by omega, rfl, ?_⟩, by simp only [Int.toNat_natCast]; omega⟩
        rw [lastOf_take ho, if_neg e3]
        exact inv.imp id fun ⟨j, o', h1, h2, h3⟩ => ⟨j, o', h1, by omega, h3⟩
    · simp only [decide_eq_false_iff_not] at e2
      rw [ea] at e2
      have : k' = A.length := by omega
      subst this
      rw [List.take_length, hlast] at inv
      rcases inv with ⟨_, h0⟩ | ⟨j, o, rfl, hj, ho, h1⟩
      · cases h0
      cases h1
      obtain ⟨ad2, had2, v2, hc2, hb2⟩ := a13.at_ j p ho
      refine Br.f (by simp) (Idx.mk had2 (by omega) ?_)
      rw [nat_mul]
      refine Ld.op hc2 (ixl _ ?_)
      rw [nat_mul]
      refine Ld.op hcv (ct_Op hb2 hbv fun h33 x33 => Br.f (by simp) ?_)
      have fin : (fun n h' => ∃ i : Nat, n = (i : Int) ∧ i ≤ (pLast A).length ∧ Ext h8.size h8 h') (IntKind.i64.wrap ((i : Int) + 1)) h33 ∧ (fun (n : Int) (_ : Mem) => (pLast A).length - n.toNat) (IntKind.i64.wrap ((i : Int) + 1)) h33 < (fun (n : Int) (_ : Mem) => (pLast A).length - n.toNat) (i : Int) h19 := by
        rw [wrap_succ (by omega)]
        exact ⟨⟨i + 1, rfl, by omega, x13.after x33⟩, by simp only [Int.toNat_natCast]; omega⟩
      refine Br.mk (fun e4 => ?_) fun _ => fin
      simp only [gt_iff_lt, decide_eq_true_eq] at e4
      rw [i64_eq (by omega) (by omega), show ((i : Int) - 1) = ((i - 1 : Nat) : Int) by omega]
      obtain ⟨p', hp'⟩ : ∃ p', (pLast A)[i - 1]? = some p' := ⟨_, List.getElem?_eq_getElem (by omega)⟩
      have o33 := o13.ext EOp.stab x33
      obtain ⟨ad3, had3, v3, hc3, _⟩ := o33.ops.at_ (i - 1) p' hp'
      refine Idx.mk had3 (by omega) ?_
      rw [nat_mul]
      refine Ld.key (hc3 0 _ rfl) (ixl _ ?_)
      refine Ld.key (x33.cellAt (cellAt_lt (hcv 0 _ rfl)) (hcv 0 _ rfl)) (Br.f ?_ fin)
      rw [(pLast_is A).rise.lt (show i - 1 < i by omega) hp' hp]; rfl
  · refine ct_CopyOps a13 a.short (by omega) fun s38 h39 x39 o39 => ?_
    refine append_ops (B := h13.size) (x013.after x39) x013.size x39.size o39 b.at_ (by omega) fun s40 h41 o41 x41 => ?_
    have x1341 : Ext h13.size h13 h41 := x39.trans x41
    have o41' := o13.ext EOp.stab x1341
    refine ct_CopyOps o41'.ops (short fun o ho => .inl (pLast_mem ho)) (by omega) fun s42 h43 x43 o43 => ?_
    refine last (b.at_.ext ((x013.after x1341).after x43)) (fun o ho => .inr ho) (by omega) fun s44 h45 x45 o45 => ?_
    have o45' := o43.ext EOp.stab x45
    have l44 := o45.len (by decide)
    have z43 := x43.size
    have z45 := x45.size
    obtain ⟨css, ow, hh⟩ := o45
    refine OwnL.pushAll (bytes := 48) und_ops info_op (by decide) EOp.stab (by omega) o45' (fun a' ha' => Owns.cells ow ha') l44 (fun hn => Owns.nil0 ow hn) (hh.base fun cs x => EOp.base z43 cs x) (by decide) (by decide) (by omega) fun s46 h47 o47 x47 _ _ => ?_
    have x4147 : Ext h41.size h41 h47 := x43.trans ((x45.less z43).trans x47)
    have x047 := (x013.after x1341).after x4147
    refine last (o41.ext x4147) (fun o ho => List.mem_append.1 ho) (by rw [List.length_append]; omega) fun s48 h49 x49 o49 => ?_
    refine last (o47.ext EOp.stab x49).ops (fun o ho => (List.mem_append.1 ho).imp pLast_mem pLast_mem) (by rw [List.length_append]; omega) fun s50 h51 x51 o51 => ?_
    refine ct_Ops (o49.ext EOp.stab x51).ops o51.ops (by have := pLast_length (A ++ B); rw [List.length_append] at this; omega) fun h53 x53 => ?_
    rw [← pLast_both, decide_eq_true rfl]
    exact q _ (x047.after (x49.after (x51.after x53)))
end
end Go.Dn.W
