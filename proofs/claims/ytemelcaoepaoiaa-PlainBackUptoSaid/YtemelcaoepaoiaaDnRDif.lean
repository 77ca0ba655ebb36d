/- Differences of two lists of pairs: the document's answer. -/
import Derived.Test.YtemelcaoepaoiaaDnDif
import Derived.Test.YtemelcaoepaoiaaDnWF
set_option linter.unusedVariables false
namespace Go.Dn.W
open Go Go.Dn Go.Proofs

section
variable {h : Mem}

theorem mk_d {H : Mem} {was is : Bool} {K : Option Addr → Mem → Prop} (k : ∀ h', Ext H.size H h' → VarD h' H.size emp was is nilS nilS → K (some ⟨H.size, 0, none⟩) h') :
    New (Obj.cells #[Value.string (ByteArray.mk #[]), Value.bool false, Value.bool false, Value.slice none 0 0, Value.slice none 0 0] 87) H fun (k90 : Nat) (h91 : Mem) =>
      St PG ty_api_Diff (Addr.mk k90 0 none) (Value.agg #[Value.string (ByteArray.mk #[]), Value.bool was, Value.bool is, Value.slice none 0 0, Value.slice none 0 0]) h91 fun (h92 : Mem) => K (some (Addr.mk k90 0 none)) h92 := by
  refine New.go fun h1 _ x1 z1 r1 => ?_
  obtain ⟨d, hd⟩ := und_diff
  exact St.row hd (vs := dcells emp was is nilS nilS) rfl sz_diff (one_dcells _ _ _ _ _) r1 (Nat.le_refl 5) fun h2 u2 r2 => k h2 (x1.trans (u2.ext (Nat.le_refl _))) r2
/-- the same, the variable laid already -/
theorem st_d {H h1 : Mem} {was is : Bool} {k : Nat} {K : Mem → Prop} (r1 : VarD h1 k emp false false nilS nilS) (q : ∀ h', Upd k h1 h' → VarD h' k emp was is nilS nilS → K h') :
    St PG ty_api_Diff (Addr.mk k 0 none) (Value.agg #[Value.string (ByteArray.mk #[]), Value.bool was, Value.bool is, Value.slice none 0 0, Value.slice none 0 0]) h1 K := by
  obtain ⟨d, hd⟩ := und_diff
  exact St.row hd (vs := dcells emp was is nilS nilS) rfl sz_diff (one_dcells _ _ _ _ _) r1 (Nat.le_refl 5) fun h2 u2 r2 => q h2 u2 r2

theorem drop_nil_iff {α : Type} {l : List α} {i : Nat} (hi : i ≤ l.length) : l.drop i = [] ↔ i = l.length := by
  rw [List.drop_eq_nil_iff]; omega
theorem drop_get {α : Type} {l : List α} {i : Nat} {p : α} (hp : l[i]? = some p) : l.drop i = p :: l.drop (i + 1) := by
  have hi' := (List.getElem?_eq_some_iff.1 hp).1
  rw [List.drop_eq_getElem_cons hi']
  congr 1
  rw [List.getElem?_eq_getElem hi'] at hp; exact Option.some.inj hp
theorem next_drop (A : List Pr) (i : Nat) (b : List Pr) : nextA (A.drop i) b = A.drop (bif wasOf (A.drop i) b then i + 1 else i) := by
  unfold nextA
  cases wasOf (A.drop i) b with
  | false => rfl
  | true => exact List.tail_drop

theorem ct_ref_Differ {s t : Sl} {A B : List Pr} {Q : Sl → Mem → Prop} (a : PairsAt h s A) (b : PairsAt h t B) (hl : A.length + B.length ≤ 4194304)
    (q : ∀ s' h', Ext h.size h h' → OwnD h' h.size s' (pDiffer A B) → Q s' h') : CallF PG fn_dunnageref11_Differ [sval s, sval t] (.one (.leaf .sl)) h Q := by
  have la := a.len
  have lb := b.len
  refine call_dunnageref11_Differ (ct_ref_Right a (by omega) ⟨fun c h' => c = !decide (Right A ∧ Right B) ∧ h' = h, ?_, ?_⟩)
  rotate_left
  · refine Br.mk (fun e => ⟨?_, rfl⟩) fun e => ct_ref_Right b (by omega) ⟨?_, rfl⟩
    · have : ¬ Right A := by simpa using e
      simp [this]
    · have : Right A := by simpa using e
      simp [this]
  rintro _ c h6 ⟨rfl, e⟩
  obtain rfl := e.symm
  refine Br.mk (fun e => ?_) fun e => ?_
  · have nr : ¬ (Right A ∧ Right B) := fun h0 => by simp [h0] at e
    refine q _ _ (Ext.refl _ _) ?_
    unfold pDiffer
    rw [if_neg nr]; exact OwnL.nil _ _ _ _ _ _
  have rr : Right A ∧ Right B := by simpa using e
  have eD : pDiffer A B = pDiff A B := if_pos rr
  rw [eD] at q
  obtain ⟨rA, rB⟩ := rr
  refine ⟨fun out n m H => ∃ (i k : Nat) (ol : List Df), n = (i : Int) ∧ m = (k : Int) ∧ i ≤ A.length ∧ k ≤ B.length ∧ ol.length ≤ i + k ∧ Ext h.size h H ∧ OwnD H h.size out ol ∧ ol ++ pDiff (A.drop i) (B.drop k) = pDiff A B,
    fun _ n m _ => (A.length - n.toNat) + (B.length - m.toNat), ⟨0, 0, [], rfl, rfl, Nat.zero_le _, Nat.zero_le _, Nat.zero_le _, Ext.refl _ _, OwnL.nil _ _ _ _ _ _, rfl⟩, ?_⟩
  rintro _ out n m H ⟨i, k, ol, rfl, rfl, hi, hk, hol, x, o, hd⟩
  have nA := drop_nil_iff hi
  have nB := drop_nil_iff hk
  refine ⟨fun c h' => c = !decide (A.drop i = [] ∧ B.drop k = []) ∧ h' = H, ?_, ?_⟩
  rotate_left
  · refine Br.mk (fun e => ⟨?_, rfl⟩) fun e => ⟨?_, rfl⟩
    · simp only [decide_eq_true_eq] at e
      have : ¬ (A.drop i = []) := fun h0 => by have := nA.1 h0; omega
      simp [this]
    · simp only [decide_eq_false_iff_not] at e
      have e1 : i = A.length := by omega
      by_cases e2 : k = B.length
      · rw [nA.2 e1, nB.2 e2]; simp; omega
      · have : ¬ (B.drop k = []) := fun h0 => e2 (nB.1 h0)
        have e3 : (k : Int) < (t.len : Int) := by omega
        simp only [this, and_false, decide_false, Bool.not_false, decide_eq_true_eq]
        exact e3
  rintro _ c H' ⟨rfl, e⟩
  obtain rfl := e.symm
  refine Br.mk (fun hne => ?_) fun he => ?_
  rotate_left
  · have he : A.drop i = [] ∧ B.drop k = [] := by simpa using he
    rw [he.1, he.2, pDiff_nil, List.append_nil] at hd
    rw [← hd] at q
    exact q out H x o
  have hne : ¬ (A.drop i = [] ∧ B.drop k = []) := fun h0 => by simp [h0] at hne
  have hstep := pDiff_step hne
  have hne' : i < A.length ∨ k < B.length := by
    by_cases h0 : i < A.length
    · exact .inl h0
    · by_cases h1 : k < B.length
      · exact .inr h1
      · exact absurd ⟨nA.2 (by omega), nB.2 (by omega)⟩ hne
  have eA' : (A.drop i).length = A.length - i := List.length_drop
  refine ⟨fun q h' => ∃ kk, q = some ⟨kk, 0, none⟩ ∧ Ext H.size H h' ∧ H.size ≤ kk ∧ VarD h' kk emp (wasOf (A.drop i) (B.drop k)) (wasOf (B.drop k) (A.drop i)) nilS nilS, ?_, ?_⟩
  rotate_left
  · -- the variable is laid
    have mk : ∀ H1, Ext H.size H H1 → ∀ {w z : Bool}, w = wasOf (A.drop i) (B.drop k) → z = wasOf (B.drop k) (A.drop i) →
        New (Obj.cells #[Value.string (ByteArray.mk #[]), Value.bool false, Value.bool false, Value.slice none 0 0, Value.slice none 0 0] 87) H1 fun (k90 : Nat) (h91 : Mem) =>
          St PG ty_api_Diff (Addr.mk k90 0 none) (Value.agg #[Value.string (ByteArray.mk #[]), Value.bool w, Value.bool z, Value.slice none 0 0, Value.slice none 0 0]) h91 fun (h92 : Mem) => (∃ kk', some (⟨k90, 0, none⟩ : Addr) = some ⟨kk', 0, none⟩ ∧ Ext H.size H h92 ∧ H.size ≤ kk' ∧ VarD h92 kk' emp (wasOf (A.drop i) (B.drop k)) (wasOf (B.drop k) (A.drop i)) nilS nilS) := by
      intro H1 x1 w z ew ez
      subst ew ez
      exact mk_d (K := fun q h' => ∃ kk, q = some ⟨kk, 0, none⟩ ∧ Ext H.size H h' ∧ H.size ≤ kk ∧ VarD h' kk emp (wasOf (A.drop i) (B.drop k)) (wasOf (B.drop k) (A.drop i)) nilS nilS) fun h' x' v' => ⟨_, rfl, x1.trans (x'.less x1.size), x1.size, v'⟩
    have st : ∀ kk H1, Ext H.size H H1 → H.size ≤ kk → VarD H1 kk emp false false nilS nilS → ∀ {w z : Bool}, w = wasOf (A.drop i) (B.drop k) → z = wasOf (B.drop k) (A.drop i) →
        St PG ty_api_Diff (Addr.mk kk 0 none) (Value.agg #[Value.string (ByteArray.mk #[]), Value.bool w, Value.bool z, Value.slice none 0 0, Value.slice none 0 0]) H1 fun (h92 : Mem) => (∃ kk', some (⟨kk, 0, none⟩ : Addr) = some ⟨kk', 0, none⟩ ∧ Ext H.size H h92 ∧ H.size ≤ kk' ∧ VarD h92 kk' emp (wasOf (A.drop i) (B.drop k)) (wasOf (B.drop k) (A.drop i)) nilS nilS) := by
      intro kk H1 x1 hkk r1 w z ew ez
      subst ew ez
      exact st_d (H := H) r1 fun h' u' v' => ⟨_, rfl, x1.trans (u'.ext hkk), hkk, v'⟩
    have new : ∀ {K : Nat → Mem → Prop}, (∀ h1, Ext H.size H h1 → VarD h1 H.size emp false false nilS nilS → K H.size h1) → New (Obj.cells #[Value.string (ByteArray.mk #[]), Value.bool false, Value.bool false, Value.slice none 0 0, Value.slice none 0 0] 87) H K :=
      fun hk => New.go fun h1 _ x1 z1 r1 => hk h1 x1 r1
    by_cases hkB : k < B.length
    · have c1 : ((k : Int) == (t.len : Int)) = false := by rw [beq_eq_false_iff_ne]; omega
      have c2 : decide ((k : Int) < (t.len : Int)) = true := by rw [decide_eq_true_eq]; omega
      obtain ⟨p', hp'⟩ : ∃ p, B[k]? = some p := ⟨_, List.getElem?_eq_getElem hkB⟩
      have dB := drop_get hp'
      by_cases hiA : i < A.length
      · have c3 : ((i : Int) == (s.len : Int)) = false := by rw [beq_eq_false_iff_ne]; omega
        have c4 : decide ((i : Int) < (s.len : Int)) = true := by rw [decide_eq_true_eq]; omega
        obtain ⟨p, hp⟩ : ∃ p, A[i]? = some p := ⟨_, List.getElem?_eq_getElem hiA⟩
        have dA := drop_get hp
        have w1 : (!sLt p'.key p.key) = wasOf (A.drop i) (B.drop k) := by rw [dA, dB]; rfl
        have w2 : (!sLt p.key p'.key) = wasOf (B.drop k) (A.drop i) := by rw [dA, dB]; rfl
        have ks := rA.key hp
        have ks' := rB.key hp'
        obtain ⟨ad, ha, v, hc, hb⟩ := (a.ext x).at_ i p hp
        obtain ⟨ad', ha', v', hc', hb'⟩ := (b.ext x).at_ k p' hp'
        have c0 : cellAt H (ad.add (i * 2)) = some (.string p.key) := hc 0 _ rfl
        have c0' : cellAt H (ad'.add (k * 2)) = some (.string p'.key) := hc' 0 _ rfl
        have key : ∀ {H1} {K : ByteArray → Prop}, Ext H.size H H1 → K p.key → Ld PG ty_string (ad.add ((i : Int).toNat * 2)) (Kd.one (Cmp.leaf Leaf.str)) H1 K := fun x1 kk => by rw [nat_mul]; exact Ld.key (x1.cellAt (cellAt_lt c0) c0) kk
        have key' : ∀ {H1} {K : ByteArray → Prop}, Ext H.size H H1 → K p'.key → Ld PG ty_string (ad'.add ((k : Int).toNat * 2)) (Kd.one (Cmp.leaf Leaf.str)) H1 K := fun x1 kk => by rw [nat_mul]; exact Ld.key (x1.cellAt (cellAt_lt c0') c0') kk
        have ix : ∀ {K : Addr → Prop}, K ad → Idx s.a s.len (i : Int) K := fun kk => Idx.mk ha (by omega) kk
        have ix' : ∀ {K : Addr → Prop}, K ad' → Idx t.a t.len (k : Int) K := fun kk => Idx.mk ha' (by omega) kk
        have x0 := Ext.refl H.size H
        refine Br.f c1 (Br.t c4 (ix' (key' x0 (ix (key x0 ⟨ct_ref_Less (by omega) (Br.f c3 (Br.t c2 (ix (key x0 (ix' (key' x0 ⟨ct_ref_Less (by omega) (mk H x0 w1 w2), new fun h1 x1 r1 => ⟨key' x1 rfl, key x1 rfl, ct_ref_Less (by omega) (st _ _ x1 (Nat.le_refl _) r1 w1 w2)⟩⟩)))))),
          new fun h1 x1 r1 => ⟨key x1 rfl, key' x1 rfl, ct_ref_Less (by omega) (Br.f c3 (Br.t c2 (ix (key x1 (ix' (key' x1 (ct_ref_Less (by omega) (st _ _ x1 (Nat.le_refl _) r1 w1 w2))))))))⟩⟩)))))
      · have c3 : ((i : Int) == (s.len : Int)) = true := by rw [beq_iff_eq]; omega
        have c4 : decide ((i : Int) < (s.len : Int)) = false := by rw [decide_eq_false_iff_not]; omega
        have dA : A.drop i = [] := nA.2 (by omega)
        have w1 : false = wasOf (A.drop i) (B.drop k) := by rw [dA]; rfl
        have w2 : true = wasOf (B.drop k) (A.drop i) := by rw [dA, dB]; rfl
        have x0 := Ext.refl H.size H
        refine Br.f c1 (Br.f c4 ⟨Br.t c3 ⟨mk H x0 w1 w2, mk H x0 w1 w2⟩, new fun h1 x1 r1 => Br.t c3 (st _ _ x1 (Nat.le_refl _) r1 w1 w2)⟩)
    · have c1 : ((k : Int) == (t.len : Int)) = true := by rw [beq_iff_eq]; omega
      have c2 : decide ((k : Int) < (t.len : Int)) = false := by rw [decide_eq_false_iff_not]; omega
      have hiA : i < A.length := hne'.resolve_right hkB
      have c3 : ((i : Int) == (s.len : Int)) = false := by rw [beq_eq_false_iff_ne]; omega
      obtain ⟨p, hp⟩ : ∃ p, A[i]? = some p := ⟨_, List.getElem?_eq_getElem hiA⟩
      have dA := drop_get hp
      have dB : B.drop k = [] := nB.2 (by omega)
      have w1 : true = wasOf (A.drop i) (B.drop k) := by rw [dA, dB]; rfl
      have w2 : false = wasOf (B.drop k) (A.drop i) := by rw [dA, dB]; rfl
      have x0 := Ext.refl H.size H
      exact Br.t c1 ⟨Br.f c3 (Br.f c2 ⟨mk H x0 w1 w2, mk H x0 w1 w2⟩), new fun h1 x1 r1 => Br.f c3 (Br.f c2 (st _ _ x1 (Nat.le_refl _) r1 w1 w2))⟩
  rintro _ _ H1 ⟨kk, rfl, y1, hkk, v1⟩
  have k0 : ∀ n, (Addr.mk kk 0 none).add n = ⟨kk, n, none⟩ := fun n => by rw [add_off, Nat.zero_add]
  have w1i : wasOf (A.drop i) (B.drop k) = true → ∃ p, A[i]? = some p ∧ hdP (A.drop i) = p := fun e1 => by
    obtain ⟨p, l, e2⟩ := was_ne e1
    have hlt : i < A.length := by
      rcases Nat.lt_or_ge i A.length with h0 | h0
      · exact h0
      · rw [List.drop_eq_nil_of_le h0] at e2; cases e2
    obtain ⟨p0, hp0⟩ : ∃ p, A[i]? = some p := ⟨_, List.getElem?_eq_getElem hlt⟩
    rw [drop_get hp0]; exact ⟨p0, hp0, rfl⟩
  have w2i : wasOf (B.drop k) (A.drop i) = true → ∃ p, B[k]? = some p ∧ hdP (B.drop k) = p := fun e1 => by
    obtain ⟨p, l, e2⟩ := was_ne e1
    have hlt : k < B.length := by
      rcases Nat.lt_or_ge k B.length with h0 | h0
      · exact h0
      · rw [List.drop_eq_nil_of_le h0] at e2; cases e2
    obtain ⟨p0, hp0⟩ : ∃ p, B[k]? = some p := ⟨_, List.getElem?_eq_getElem hlt⟩
    rw [drop_get hp0]; exact ⟨p0, hp0, rfl⟩
  have nA2 := next_drop A i (B.drop k)
  have nB2 := next_drop B k (A.drop i)
  have hst : (stepD (A.drop i) (B.drop k)).length ≤ 1 := by unfold stepD; cases keepD (dOf (A.drop i) (B.drop k)) <;> simp
  have hsome := was_some hne
  have dold : (dOf (A.drop i) (B.drop k)).old = bif wasOf (A.drop i) (B.drop k) then (hdP (A.drop i)).val else [] := rfl
  have dnew : (dOf (A.drop i) (B.drop k)).new = bif wasOf (B.drop k) (A.drop i) then (hdP (B.drop k)).val else [] := rfl
  have dkey : (dOf (A.drop i) (B.drop k)).key = bif wasOf (B.drop k) (A.drop i) then (hdP (B.drop k)).key else bif wasOf (A.drop i) (B.drop k) then (hdP (A.drop i)).key else emp := rfl
  have dwas : (dOf (A.drop i) (B.drop k)).was = wasOf (A.drop i) (B.drop k) := rfl
  have dis : (dOf (A.drop i) (B.drop k)).is = wasOf (B.drop k) (A.drop i) := rfl
  have estep : stepD (A.drop i) (B.drop k) = bif keepD (dOf (A.drop i) (B.drop k)) then [dOf (A.drop i) (B.drop k)] else [] := rfl
  generalize dOf (A.drop i) (B.drop k) = d at dold dnew dkey dwas dis estep
  generalize wasOf (A.drop i) (B.drop k) = w at *
  generalize wasOf (B.drop k) (A.drop i) = z at *
  refine ⟨fun n H2 => n = ((bif w then i + 1 else i : Nat) : Int) ∧ ∃ v, Ext H.size H H2 ∧ VarD H2 kk (bif w then (hdP (A.drop i)).key else emp) w z v nilS ∧ OwnB H2 h.size ty_uint8 v d.old, ?_, ?_⟩
  rotate_left
  · refine Deref.mk rfl (Ld.flag (v := w) (by rw [add_off]; exact row_cell v1 rfl) (Br.mk (fun e1 => ?_) fun e1 => ?_))
    · obtain ⟨p, hp, ehd⟩ := w1i e1
      have hlt := (List.getElem?_eq_some_iff.1 hp).1
      obtain ⟨ad, ha, v, hc, hb⟩ := (a.ext (x.after y1)).at_ i p hp
      have c0 : cellAt H1 (ad.add (i * 2)) = some (.string p.key) := hc 0 _ rfl
      have c1 : cellAt H1 ((ad.add (i * 2)).add 1) = some (sval v) := hc 1 _ rfl
      have ix : ∀ {K : Addr → Prop}, K ad → Idx s.a s.len (i : Int) K := fun kk => Idx.mk ha (by omega) kk
      refine ix ?_
      rw [nat_mul]
      refine Ld.key c0 (ix (Ld.bytes c1 (Deref.mk rfl (ct_CopyBytes hb (rA.short i p hp) fun w' h3 x3 ow => ⟨Ld.key (x3.cellAt (cellAt_lt c0) c0) rfl, ?_⟩))))
      have hz := y1.size
      have hk1 : kk < H1.size := (Array.getElem?_eq_some_iff.1 v1).1
      have v3 : VarD h3 kk emp w z nilS nilS := (x3.block _ hk1).trans v1
      refine St.at und_str sz_str rfl rfl v3 (by simp [dcells]) fun h4 u4 r4 => Deref.mk rfl ?_
      rw [k0]
      refine St.at und_bytes sz_bytes rfl rfl r4 (by simp [dcells]) fun h5 u5 r5 => ?_
      rw [wrap_succ (by omega)]
      refine ⟨by rw [e1]; rfl, w', y1.trans ((x3.less hz).trans ((u4.ext hkk).trans (u5.ext hkk))), ?_, ?_⟩
      · rw [e1, ehd]
        rw [e1] at r5
        exact r5
      · rw [dold, e1, ehd]
        have nk : ∀ ad', w'.a = some ad' → ad'.block ≠ kk := fun ad' ha' e => by have := (Owns.blk ow ha').1; omega
        exact ((Owns.kept ow fun ad' ha' => u4.block _ (nk ad' ha')).kept fun ad' ha' => u5.block _ (nk ad' ha')).base (Nat.le_trans x.size hz)
    · rw [e1] at v1 dold ⊢
      exact ⟨rfl, nilS, y1, v1, by rw [dold]; exact Owns.nil _ _ _ _⟩
  rintro _ _ H2 ⟨rfl, v, y2, v2, ov⟩
  have hk2 : kk < H2.size := (Array.getElem?_eq_some_iff.1 v2).1
  refine ⟨fun n H3 => n = ((bif z then k + 1 else k : Nat) : Int) ∧ ∃ w', Ext H.size H H3 ∧ VarD H3 kk d.key w z v w' ∧ OwnB H3 h.size ty_uint8 v d.old ∧ OwnB H3 h.size ty_uint8 w' d.new, ?_, ?_⟩
  rotate_left
  · refine Deref.mk rfl (Ld.flag (v := z) (by rw [add_off]; exact row_cell v2 rfl) (Br.mk (fun e1 => ?_) fun e1 => ?_))
    · obtain ⟨p, hp, ehd⟩ := w2i e1
      have hlt := (List.getElem?_eq_some_iff.1 hp).1
      obtain ⟨ad, ha, v', hc, hb⟩ := (b.ext (x.after y2)).at_ k p hp
      have c0 : cellAt H2 (ad.add (k * 2)) = some (.string p.key) := hc 0 _ rfl
      have c1 : cellAt H2 ((ad.add (k * 2)).add 1) = some (sval v') := hc 1 _ rfl
      have ix : ∀ {K : Addr → Prop}, K ad → Idx t.a t.len (k : Int) K := fun kk => Idx.mk ha (by omega) kk
      refine ix ?_
      rw [nat_mul]
      refine Ld.key c0 (ix (Ld.bytes c1 (Deref.mk rfl (ct_CopyBytes hb (rB.short k p hp) fun w' h3 x3 ow => ⟨Ld.key (x3.cellAt (cellAt_lt c0) c0) rfl, ?_⟩))))
      have hz := y2.size
      have v3 : VarD h3 kk (bif w then (hdP (A.drop i)).key else emp) w z v nilS := (x3.block _ hk2).trans v2
      refine St.at und_str sz_str rfl rfl v3 (by simp [dcells]) fun h4 u4 r4 => Deref.mk rfl ?_
      rw [k0]
      refine St.at und_bytes sz_bytes rfl rfl r4 (by simp [dcells]) fun h5 u5 r5 => ?_
      rw [wrap_succ (by omega)]
      have kb4 : KeepB h3 h4 := Upd.keepB u4 v3 (by decide)
      have kb5 : KeepB h4 h5 := Upd.keepB u5 r4 (by decide)
      refine ⟨by rw [e1]; rfl, w', y2.trans ((x3.less hz).trans ((u4.ext hkk).trans (u5.ext hkk))), ?_, OwnB.keep (OwnB.keep (Owns.ext ov x3) kb4) kb5, ?_⟩
      · rw [dkey, e1, ehd]
        rw [e1] at r5
        exact r5
      · rw [dnew, e1, ehd]
        exact OwnB.keep (OwnB.keep (Owns.base ow (Nat.le_trans x.size hz)) kb4) kb5
    · rw [e1] at v2 dnew dkey ⊢
      exact ⟨rfl, nilS, y2, by rw [dkey]; exact v2, ov, by rw [dnew]; exact Owns.nil _ _ _ _⟩
  rintro _ _ H3 ⟨rfl, w', y3, v3, ov3, ow3⟩
  have hB3 : h.size ≤ H3.size := (x.after y3).size
  have v3d : H3[kk]? = some (.cells (dcells d.key d.was d.is v w').toArray ty_api_Diff (0, 0)) := by rw [dwas, dis]; exact v3
  have fin : ∀ out' h', OwnD h' h.size out' (ol ++ (bif keepD d then [d] else [])) → Ext h.size h h' →
      (∃ (i' k' : Nat) (ol : List Df), ((bif w then i + 1 else i : Nat) : Int) = (i' : Int) ∧ ((bif z then k + 1 else k : Nat) : Int) = (k' : Int) ∧ i' ≤ A.length ∧ k' ≤ B.length ∧ ol.length ≤ i' + k' ∧ Ext h.size h h' ∧ OwnD h' h.size out' ol ∧ ol ++ pDiff (A.drop i') (B.drop k') = pDiff A B) ∧
        (A.length - (((bif w then i + 1 else i : Nat) : Int)).toNat) + (B.length - (((bif z then k + 1 else k : Nat) : Int)).toNat) < (A.length - ((i : Int)).toNat) + (B.length - ((k : Int)).toNat) := by
    intro out' h' o' x'
    have b1 : w = true → i < A.length := fun e => by obtain ⟨p, hp, _⟩ := w1i e; exact (List.getElem?_eq_some_iff.1 hp).1
    have b2 : z = true → k < B.length := fun e => by obtain ⟨p, hp, _⟩ := w2i e; exact (List.getElem?_eq_some_iff.1 hp).1
    have g1 : i ≤ (bif w then i + 1 else i) ∧ (bif w then i + 1 else i) ≤ A.length ∧ (w = true → (bif w then i + 1 else i) = i + 1) := by cases w <;> simp <;> first | omega | (have := b1 rfl; omega)
    have g2 : k ≤ (bif z then k + 1 else k) ∧ (bif z then k + 1 else k) ≤ B.length ∧ (z = true → (bif z then k + 1 else k) = k + 1) := by cases z <;> simp <;> first | omega | (have := b2 rfl; omega)
    rw [← estep] at o'
    have hlen : (ol ++ stepD (A.drop i) (B.drop k)).length ≤ ol.length + 1 := by rw [List.length_append]; omega
    refine ⟨⟨_, _, ol ++ stepD (A.drop i) (B.drop k), rfl, rfl, g1.2.1, g2.2.1, ?_, x', o', ?_⟩, ?_⟩
    · rcases hsome with e | e
      · have := g1.2.2 e; omega
      · have := g2.2.2 e; omega
    · rw [List.append_assoc, ← nA2, ← nB2, ← hstep]; exact hd
    · simp only [Int.toNat_natCast]
      rcases hsome with e | e
      · have := g1.2.2 e; have := b1 e; omega
      · have := g2.2.2 e; have := b2 e; omega
  have push : keepD d = true → ∀ {R : Sl → Mem → Prop}, (∀ out' h', OwnD h' h.size out' (ol ++ (bif keepD d then [d] else [])) → Ext h.size h h' → R out' h') → _ := fun e R r => diff_push hB3 v3d ov3 ow3 (o.ext EDf.stab y3) (by omega) (R := R) fun out' h' o' x' => r out' h' (by rw [e]; exact o') ((x.after y3).trans x')
  refine Deref.mk rfl (Ld.flag (v := w) (by rw [add_off]; exact row_cell v3 rfl) ⟨fun c h' => c = (!w || !z) ∧ h' = H3, ?_, ?_⟩)
  rotate_left
  · refine Br.mk (fun e => ⟨by rw [e]; rfl, rfl⟩) fun e => Deref.mk rfl (Ld.flag (v := z) (by rw [add_off]; exact row_cell v3 rfl) ⟨by rw [e]; rfl, rfl⟩)
  rintro _ c h' ⟨rfl, e⟩
  obtain rfl := e.symm
  refine Br.mk (fun e => Deref.mk rfl (push ?_ fun out' h' o' x' => fin out' h' o' x')) fun e => ?_
  · unfold keepD
    rw [dwas, dis]
    cases w <;> cases z <;> first | rfl | cases e
  · refine Deref.mk rfl (Ld.bytes (v := v) (by rw [add_off]; exact row_cell v3 rfl) (Deref.mk rfl (Ld.bytes (v := w') (by rw [add_off]; exact row_cell v3 rfl) (ct_Bytes (OwnB.bytes ov3) (OwnB.bytes ow3) (Br.mk (fun e2 => Deref.mk rfl (push ?_ fun out' h' o' x' => fin out' h' o' x')) fun e2 => fin out H3 ?_ (x.after y3))))))
    · unfold keepD
      rw [dwas, dis]
      cases w <;> cases z <;> first | (cases e; done) | exact e2
    · have : keepD d = false := by
        unfold keepD
        rw [dwas, dis]
        cases w <;> cases z <;> first | (cases e; done) | exact e2
      rw [this]; simpa using o.ext EDf.stab y3
end
end Go.Dn.W
