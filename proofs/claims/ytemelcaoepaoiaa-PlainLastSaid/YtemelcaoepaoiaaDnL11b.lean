/- Laws of layer 11: operations and the keys that they are not about; two operations in either order; looks. -/
import Derived.Test.YtemelcaoepaoiaaDnL11a
import Derived.Test.YtemelcaoepaoiaaDnGet
set_option linter.unusedVariables false
namespace Go.Dn.W
open Go Go.Dn Go.Proofs

/-! ### plain laws -/

theorem mem_doOne {l : List Pr} {o : Opn} {p : Pr} : p ∈ doOne l o ↔ (p ∈ l ∧ p.key ≠ o.key) ∨ (o.del = false ∧ p = ⟨o.key, o.val⟩) := by
  unfold doOne newOf
  simp only [List.mem_append, List.mem_filter]
  constructor
  · rintro ((⟨h1, h2⟩ | h) | ⟨h1, h2⟩)
    · exact .inl ⟨h1, sLt_ne h2⟩
    · split at h
      · cases h
      · simp only [List.mem_cons, List.not_mem_nil, or_false] at h
        exact .inr ⟨by simpa using ‹¬ o.del = true›, h⟩
    · exact .inl ⟨h1, fun e => sLt_ne h2 e.symm⟩
  · rintro (⟨h1, h2⟩ | ⟨h1, rfl⟩)
    · cases h3 : sLt p.key o.key with
      | true => exact .inl (.inl ⟨h1, rfl⟩)
      | false => exact .inr ⟨h1, sLt_of_not h3 h2⟩
    · refine .inl (.inr ?_)
      rw [h1]; simp
theorem mem_key_ext {l : List Pr} {o : Opn} {key : ByteArray} {v : List UInt8} (hk : o.key ≠ key) : ⟨key, v⟩ ∈ doOne l o ↔ ⟨key, v⟩ ∈ l := by
  rw [mem_doOne]
  constructor
  · rintro (⟨h, _⟩ | ⟨_, h⟩)
    · exact h
    · cases h; exact absurd rfl hk
  · intro h; exact .inl ⟨h, fun e => hk e.symm⟩
theorem mem_doAll {key : ByteArray} {v : List UInt8} : ∀ {ops : List Opn} {l : List Pr}, (∀ o ∈ ops, o.key ≠ key) → (⟨key, v⟩ ∈ doAll l ops ↔ ⟨key, v⟩ ∈ l)
  | [], l, _ => Iff.rfl
  | o :: ops, l, h => by
    show _ ∈ doAll (doOne l o) ops ↔ _
    rw [mem_doAll fun o' h' => h o' (by simp [h']), mem_key_ext (h o (by simp))]
theorem option_ext {α : Type} {a b : Option α} (h : ∀ v, a = some v ↔ b = some v) : a = b := by
  cases a with
  | none =>
    cases b with
    | none => rfl
    | some v => exact ((h v).2 rfl)
  | some v => exact ((h v).1 rfl).symm
theorem get_others {l : List Pr} {ops : List Opn} {key : ByteArray} (he : pErr l ops = 0) (h : ∀ o ∈ ops, o.key ≠ key) : pGet (pDo l ops) key = pGet l key := by
  obtain ⟨r, hb⟩ := pErr_zero he
  unfold pGet
  rw [if_pos pDo_right, if_pos r]
  refine option_ext fun v => ?_
  rw [findP_iff pDo_right, findP_iff r]
  unfold pDo
  rw [if_pos he]
  exact mem_doAll h

theorem rising_ext : ∀ {l m : List Pr}, (l.Pairwise fun p q => sLt p.key q.key = true) → (m.Pairwise fun p q => sLt p.key q.key = true) → (∀ p, p ∈ l ↔ p ∈ m) → l = m
  | [], [], _, _, _ => rfl
  | [], q :: m, _, _, h => by have := (h q).2 (by simp); cases this
  | p :: l, [], _, _, h => by have := (h p).1 (by simp); cases this
  | p :: l, q :: m, hl, hm, h => by
    obtain ⟨h1, h2⟩ := List.pairwise_cons.1 hl
    obtain ⟨h3, h4⟩ := List.pairwise_cons.1 hm
    have e : p = q := by
      rcases List.mem_cons.1 ((h p).1 (by simp)) with e | e
      · exact e
      · rcases List.mem_cons.1 ((h q).2 (by simp)) with e' | e'
        · exact e'.symm
        · have a := h3 p e
          have b := h1 q e'
          rw [sLt_asymm a] at b; cases b
    subst e
    have key : ∀ x, x ∈ l ↔ x ∈ m := fun x => by
      have nl : x ∈ l → x ≠ p := fun hx e => by have := h1 x hx; rw [e, sLt_irrefl] at this; cases this
      have nm : x ∈ m → x ≠ p := fun hx e => by have := h3 x hx; rw [e, sLt_irrefl] at this; cases this
      constructor
      · intro hx
        rcases List.mem_cons.1 ((h x).1 (List.mem_cons_of_mem _ hx)) with e | e
        · exact absurd e (nl hx)
        · exact e
      · intro hx
        rcases List.mem_cons.1 ((h x).2 (List.mem_cons_of_mem _ hx)) with e | e
        · exact absurd e (nm hx)
        · exact e
    rw [rising_ext h2 h4 key]
theorem Right.ext {l m : List Pr} (r : Right l) (s : Right m) (h : ∀ p, p ∈ l ↔ p ∈ m) : l = m := rising_ext (Right.iff.1 r).2 (Right.iff.1 s).2 h

theorem pBatch_swap (a b : Opn) : pBatch [a, b] = pBatch [b, a] := by
  unfold pBatch
  have e1 : [a, b].any bad1 = [b, a].any bad1 := by simp [Bool.or_comm]
  have e2 : [a, b].any bad2 = [b, a].any bad2 := by simp [Bool.or_comm]
  have e3 : opSum [a, b] = opSum [b, a] := by simp [opSum]; omega
  rw [e1, e2, e3]
  rfl
theorem pErr_swap (l : List Pr) (a b : Opn) : pErr l [a, b] = pErr l [b, a] := by unfold pErr; rw [pBatch_swap]
theorem do_swap {l : List Pr} {a b : Opn} (he : pErr l [a, b] = 0) (hk : a.key ≠ b.key) : pDo l [a, b] = pDo l [b, a] := by
  refine Right.ext pDo_right pDo_right fun p => ?_
  unfold pDo
  rw [← pErr_swap l a b, if_pos he, if_pos he]
  show p ∈ doOne (doOne l a) b ↔ p ∈ doOne (doOne l b) a
  simp only [mem_doOne]
  constructor
  · rintro (⟨(⟨h1, h2⟩ | ⟨h1, rfl⟩), h3⟩ | ⟨h1, rfl⟩)
    · exact .inl ⟨.inl ⟨h1, h3⟩, h2⟩
    · exact .inr ⟨h1, rfl⟩
    · exact .inl ⟨.inr ⟨h1, rfl⟩, fun e => hk e.symm⟩
  · rintro (⟨(⟨h1, h2⟩ | ⟨h1, rfl⟩), h3⟩ | ⟨h1, rfl⟩)
    · exact .inl ⟨.inl ⟨h1, h3⟩, h2⟩
    · exact .inr ⟨h1, rfl⟩
    · exact .inl ⟨.inr ⟨h1, rfl⟩, hk⟩
theorem get_last {l : List Pr} {a b : Opn} (he : pErr l [a, b] = 0) : (pGet (pDo l [a, b]) b.key).isSome = (!b.del) ∧ (pGet (pDo l [a, b]) b.key).getD [] = b.val := by
  obtain ⟨r, hb⟩ := pErr_zero he
  have hv := ((pBatch_zero hb).2 b (by simp)).2
  have e : pDo l [a, b] = doOne (doOne l a) b := by unfold pDo; rw [if_pos he]; rfl
  unfold pGet
  rw [if_pos pDo_right]
  cases hd : b.del with
  | true =>
    have : findP (pDo l [a, b]) b.key = none := by
      refine findP_none fun p hp hk => ?_
      rw [e, mem_doOne, hd] at hp
      rcases hp with ⟨_, h⟩ | ⟨h, _⟩
      · exact h hk
      · cases h
    rw [this, hv hd]; exact ⟨rfl, rfl⟩
  | false =>
    have : findP (pDo l [a, b]) b.key = some b.val := by
      rw [findP_iff pDo_right, e, mem_doOne]
      exact .inr ⟨hd, rfl⟩
    rw [this]; exact ⟨rfl, rfl⟩

/-! ### the laws -/
section
variable {h : Mem}

theorem law_PlainOthers {l t : Sl} {key : ByteArray} {L : List Pr} {O : List Opn} {Q : Bool → Mem → Prop} (a : PairsIn h l L) (b : OpsIn h t O) (hk : key.size ≤ 140737488351232) (q : ∀ h', Ext h.size h h' → Q true h') : wp_dunnagelaw11_PlainOthers l t key h Q := by
  have sa := a.size
  have sb := b.size
  refine ct_plain_Do a.at_ b.at_ (by omega) (by omega) b.ok fun s1 h3 x3 o1 => ct_awake11 fun h5 x5 => ?_
  refine ⟨fun c h' => c = (pErr L O != 0) ∧ Ext h5.size h5 h', ?_, Br.f rfl ⟨rfl, Ext.refl _ _⟩⟩
  rintro _ c h9 ⟨rfl, x9⟩
  have x39 := x5.after x9
  have x09 := x3.after x39
  have hdl := pDo_length (l := L) (ops := O)
  refine Br.mk (fun e => ct_awake11 fun h11 x11 => ?_) fun e => ?_
  · refine ⟨fun c h' => c = true ∧ h' = h11, ?_, Br.t rfl ⟨?_, rfl⟩⟩
    · rintro _ c h15 ⟨rfl, rfl⟩
      exact q _ (x09.after x11)
    · have e0 : pErr L O ≠ 0 := by simpa using e
      have : pDo L O = [] := if_neg e0
      rw [o1.len, this]; rfl
  · have e0 : pErr L O = 0 := by simpa using e
    refine ⟨fun n h' => ∃ i : Nat, n = (i : Int) ∧ i ≤ O.length ∧ (∀ o ∈ O.take i, o.key ≠ key) ∧ h' = h9, fun n _ => O.length - n.toNat, ⟨0, rfl, Nat.zero_le _, by simp, rfl⟩, ?_⟩
    rintro _ n h1 ⟨i, rfl, hi, hn, rfl⟩
    refine Br.mk (fun h2 => ?_) fun h2 => ?_
    · simp only [decide_eq_true_eq] at h2
      rw [b.at_.len] at h2
      obtain ⟨p, hp⟩ : ∃ p, O[i]? = some p := ⟨_, List.getElem?_eq_getElem (by omega)⟩
      obtain ⟨ad, ha, v, hc, hb⟩ := (b.at_.ext x09).at_ i p hp
      refine Idx.mk ha (by rw [b.at_.len]; omega) ?_
      rw [nat_mul]
      refine Ld.key (hc 0 _ rfl) (Br.mk (fun _ => q _ x09) fun e1 => ?_)
      have hk : p.key ≠ key := sEq_false.1 e1
      rw [wrap_succ (by omega)]
      refine ⟨⟨i + 1, rfl, by omega, fun q' hq' => ?_, rfl⟩, by simp only [Int.toNat_natCast]; omega⟩
      rw [List.take_add_one, hp] at hq'
      rcases List.mem_append.1 hq' with h' | h'
      · exact hn q' h'
      · simp at h'; rw [h']; exact hk
    · simp only [decide_eq_false_iff_not] at h2
      rw [b.at_.len] at h2
      have ei : i = O.length := by omega
      rw [ei, List.take_length] at hn
      have hg := get_others e0 hn
      refine ct_plain_Get (a.at_.ext x09) (by omega) fun s23 h25 x25 o23 => ct_plain_Get (o1.ext (x39.after x25)).pairs (by omega) fun s26 h28 x28 o26 => ?_
      rw [hg] at o26
      refine ct_Bytes ((OwnB.bytes o23).ext x28) (OwnB.bytes o26) (Br.t (by simp) ?_)
      rw [hg]
      have : ((pGet L key).isSome == (pGet L key).isSome) = true := by simp
      rw [this]
      exact q _ ((x09.after x25).after x28)

theorem ops_two {H : Mem} {k m : ByteArray} {v w : Sl} {d e : Bool} {b : Nat} {x y : List UInt8} (r : H[b]? = some (.cells #[.string k, sval v, .bool d, .string m, sval w, .bool e] ty_api_Op (0, 0))) (hv : BytesSl H v x) (hw : BytesSl H w y) :
    OpsAt H ⟨some ⟨b, 0, none⟩, 2, 2⟩ [⟨k, x, d⟩, ⟨m, y, e⟩] := by
  refine ⟨rfl, fun i o ho => ?_, fun hn => by cases hn⟩
  match i, ho with
  | 0, ho =>
    cases ho
    exact ⟨_, rfl, v, Cells.row r fun j u hu => by
      match j, hu with
      | 0, hu => cases hu; rfl
      | 1, hu => cases hu; rfl
      | 2, hu => cases hu; rfl
      | j + 3, hu => simp [ocells] at hu, hv⟩
  | 1, ho =>
    cases ho
    refine ⟨_, rfl, w, ?_, hw⟩
    rw [add_off]
    exact Cells.row r fun j u hu => by
      match j, hu with
      | 0, hu => cases hu; rfl
      | 1, hu => cases hu; rfl
      | 2, hu => cases hu; rfl
      | j + 3, hu => simp [ocells] at hu
  | i + 2, ho => simp at ho

theorem law_PlainOrder {l s t : Sl} {L : List Pr} {a b : Opn} {Q : Bool → Mem → Prop} (hl : PairsIn h l L) (ha : BytesSl h s a.val ∧ a.key.size ≤ 140737488351232 ∧ a.val.length ≤ 140737488351232) (hb : BytesSl h t b.val ∧ b.key.size ≤ 140737488351232 ∧ b.val.length ≤ 140737488351232)
    (q : ∀ h', Ext h.size h h' → Q true h') : wp_dunnagelaw11_PlainOrder l a.key s a.del b.key t b.del h Q := by
  have sl := hl.size
  obtain ⟨ba, ka, va⟩ := ha
  obtain ⟨bb, kb, vb⟩ := hb
  refine New.go fun h1 _ x1 z1 r1 => New.go fun h2 _ x2 z2 r2 => ?_
  have x02 := x1.after x2
  have r12 : ∀ H, Ext h2.size h2 H → H[h.size]? = some (.cells #[.string a.key, sval s, .bool a.del] ty_api_Op (0, 0)) := fun H x => (x.block _ (by omega)).trans ((x2.block _ (by omega)).trans r1)
  have r22 : ∀ H, Ext h2.size h2 H → H[h1.size]? = some (.cells #[.string b.key, sval t, .bool b.del] ty_api_Op (0, 0)) := fun H x => (x.block _ (by omega)).trans r2
  refine Ld.op (Cells.whole (r12 _ (Ext.refl _ _))) (Ld.op (Cells.whole (r22 _ (Ext.refl _ _))) (New.go fun h3 _ x3 z3 r3 => ?_))
  have x03 := x02.after x3
  have hok : ∀ (i : Nat) (o : Opn), [a, b][i]? = some o → opLen o ≤ 281474976710656 := fun i o ho => by
    match i, ho with
    | 0, ho => cases ho; unfold opLen; omega
    | 1, ho => cases ho; unfold opLen; omega
    | i + 2, ho => simp at ho
  have hok' : ∀ (i : Nat) (o : Opn), [b, a][i]? = some o → opLen o ≤ 281474976710656 := fun i o ho => by
    match i, ho with
    | 0, ho => cases ho; unfold opLen; omega
    | 1, ho => cases ho; unfold opLen; omega
    | i + 2, ho => simp at ho
  refine ct_plain_Do (hl.at_.ext x03) (show OpsAt h3 _ [a, b] from ops_two r3 (ba.ext x03) (bb.ext x03)) (by omega) (by simp) hok fun s13 h15 x15 o13 => ?_
  have x25 := x3.after x15
  refine Ld.op (Cells.whole (r22 _ x25)) (Ld.op (Cells.whole (r12 _ x25)) (New.go fun h23 _ x23 z23 r23 => ?_))
  have x023 := (x02.after x25).after x23
  refine ct_plain_Do (hl.at_.ext x023) (show OpsAt h23 _ [b, a] from ops_two r23 (bb.ext x023) (ba.ext x023)) (by omega) (by simp) hok' fun s24 h26 x26 o24 => ?_
  refine ct_awake11 fun h28 x28 => ?_
  have x228 := (x25.after x23).after (x26.after x28)
  refine ⟨fun c h' => c = (pErr L [a, b] != 0) ∧ Ext h28.size h28 h', ?_, Br.f rfl ⟨rfl, Ext.refl _ _⟩⟩
  rintro _ c h32 ⟨rfl, x32⟩
  refine ⟨fun c h' => c = (pErr L [a, b] != 0) ∧ Ext h32.size h32 h', ?_, ?_⟩
  rotate_left
  · refine Br.mk (fun e => ⟨by rw [e], Ext.refl _ _⟩) fun e => ⟨?_, Ext.refl _ _⟩
    show (pErr L [b, a] != 0) = _
    rw [pErr_swap L a b]
  rintro _ c h36 ⟨rfl, x36⟩
  have x2836 := x32.after x36
  have x236 := x228.after x2836
  have x036 := x02.after x236
  refine Br.mk (fun e => ct_awake11 fun h38 x38 => ?_) fun e => ?_
  · refine ⟨fun c h' => c = true ∧ h' = h38, ?_, Br.t rfl ⟨?_, rfl⟩⟩
    · rintro _ c h42 ⟨rfl, rfl⟩
      exact q _ (x036.after x38)
    · rw [pErr_swap L a b]; simp
  · have e0 : pErr L [a, b] = 0 := by simpa using e
    have e0' : pErr L [b, a] = 0 := by rw [← pErr_swap]; exact e0
    have d1 := pDo_length (l := L) (ops := [a, b])
    have d2 := pDo_length (l := L) (ops := [b, a])
    have y13 := o13.ext ((x23.after (x26.after x28)).after x2836)
    have y24 := o24.ext (x28.after x2836)
    refine Ld.key (row_cell (r12 _ x236) rfl) (Ld.key (row_cell (r22 _ x236) rfl) (Br.mk (fun hne => ?_) fun heq => ?_))
    · have hne : a.key ≠ b.key := by simpa [sEq_false] using hne
      refine ct_Pairs y13.pairs y24.pairs (by omega) fun h46 x46 => ?_
      rw [do_swap e0 hne, decide_eq_true rfl]
      exact q _ (x036.after x46)
    · have heq : a.key = b.key := by simpa [sEq_iff] using heq
      have g1 := get_last e0
      have g2 := get_last e0'
      rw [← heq] at g1
      refine Ld.key (row_cell (r12 _ x236) rfl) (ct_plain_Get y13.pairs (by omega) fun s48 h50 x50 o48 => ?_)
      have x250 := x236.after x50
      refine Ld.key (row_cell (r12 _ x250) rfl) (ct_plain_Get (y24.ext x50).pairs (by omega) fun s52 h54 x54 o52 => ?_)
      have x254 := x250.after x54
      rw [g1.2] at o48
      rw [g2.2] at o52
      refine Ld.flag (v := b.del) (by rw [add_off]; exact row_cell (r22 _ x254) rfl) (Br.t (by rw [g1.1]; simp) ?_)
      refine Ld.flag (v := a.del) (by rw [add_off]; exact row_cell (r12 _ x254) rfl) (Br.t (by rw [g2.1]; simp) ?_)
      have x054 := x02.after x254
      refine Ld.bytes (v := t) (by rw [add_off]; exact row_cell (r22 _ x254) rfl) (ct_Bytes ((OwnB.bytes o48).ext x54) (bb.ext x054) (Br.t (by simp) ?_))
      refine Ld.bytes (v := s) (by rw [add_off]; exact row_cell (r12 _ x254) rfl) (ct_Bytes (OwnB.bytes o52) (ba.ext x054) ?_)
      rw [decide_eq_true rfl]
      exact q _ x054

theorem law_PlainLooks {l : Sl} {key lo hi : ByteArray} {most : Int} {L : List Pr} {Q : Bool → Mem → Prop} (a : PairsIn h l L) (hk : key.size ≤ 140737488351232) (hlo : lo.size ≤ 140737488351232) (hhi : hi.size ≤ 140737488351232) (hm : -9223372036854775808 ≤ most ∧ most ≤ 9223372036854775807)
    (q : ∀ h', Ext h.size h h' → Q true h') : wp_dunnagelaw11_PlainLooks l key lo hi most h Q := by
  have sa := a.size
  refine ct_CopyPairs a.at_ a.short (by omega) fun s1 h2 x2 o1 => ?_
  let err : Int := if Right L then 0 else 11
  refine ⟨fun n h' => n = err ∧ h' = h2, ?_, ct_ref_Right (a.at_.ext x2) (by omega) (Br.mk (fun e => ⟨?_, rfl⟩) fun e => ⟨?_, rfl⟩)⟩
  rotate_left
  · exact (if_neg (by simpa using e)).symm
  · exact (if_pos (by simpa using e)).symm
  rintro _ n h6 ⟨rfl, rfl⟩
  refine ct_plain_Get o1.pairs (by omega) fun s7 h9 x9 o7 => ct_ref_Get (a.at_.ext (x2.after x9)) (by omega) fun s10 h12 x12 o10 => ?_
  have x612 := x9.after x12
  refine ct_plain_Scan (o1.ext x612).pairs (by omega) fun s13 h14 x14 o13 => ct_awake11 fun h16 x16 => ?_
  have x1216 := x14.after x16
  have x616 := x612.after x1216
  refine ⟨fun c h' => c = false ∧ Ext h16.size h16 h', ?_, Br.f rfl ?_⟩
  rotate_left
  · refine ct_plain_Check (o1.ext x616).pairs (by omega) (fun r h55 x55 => ⟨?_, x55⟩) fun r h55 x55 => ⟨?_, x55⟩
    · show ((0 : Int) != (if Right L then 0 else 11)) = false
      rw [if_pos r]; rfl
    · show ((11 : Int) != (if Right L then 0 else 11)) = false
      rw [if_neg r]; rfl
  rintro _ c h20 ⟨rfl, x20⟩
  refine ⟨fun c h' => c = false ∧ Ext h20.size h20 h', ?_, Br.f rfl ?_⟩
  rotate_left
  · exact ct_Bytes ((OwnB.bytes o7).ext (x12.after (x1216.after x20))) ((OwnB.bytes o10).ext (x1216.after x20)) ⟨by simp, Ext.refl _ _⟩
  rintro _ c h24 ⟨rfl, x24⟩
  refine ⟨fun c h' => c = false ∧ Ext h24.size h24 h', ?_, Br.f rfl ⟨by cases (pGet L key).isSome <;> rfl, Ext.refl _ _⟩⟩
  rintro _ c h28 ⟨rfl, x28⟩
  have x1628 := (x20.after x24).after x28
  have x628 := x616.after x1628
  have hscan : (pScan L lo hi most).length ≤ L.length := by
    unfold pScan
    split
    · exact scan_le _ _ _ _
    · simp
  refine ⟨fun c h' => c = false ∧ Ext h28.size h28 h', ?_, Br.f rfl ?_⟩
  rotate_left
  · refine ct_ref_Scan (a.at_.ext (x2.after x628)) (by omega) fun s48 h49 x49 o48 => ct_Pairs (o13.ext ((x16.after x1628).after x49)).pairs o48.pairs (by omega) fun h51 x51 => ⟨by simp, x49.after x51⟩
  rintro _ c h32 ⟨rfl, x32⟩
  have x632 := x628.after x32
  refine Br.f rfl (ct_plain_Bytes (o1.ext x632).pairs (by omega) fun h34 x34 => ?_)
  have x634 := x632.after x34
  refine ct_ref_Bytes (a.at_.ext (x2.after x634)) (by omega) (Br.f (by simp) ?_)
  have y7 : SomeB h34 h6.size ty_uint8 s7 := ⟨_, Owns.ext o7 (x12.after (x1216.after ((x1628.after x32).after x34)))⟩
  have l7 : ((pGet L key).getD []).length ≤ 140737488355328 := by
    unfold pGet
    split
    · rename_i r
      cases hf : findP L key with
      | none => simp
      | some v =>
        have hm := (findP_iff r).1 hf
        exact Nat.le_trans (a.val _ hm) (by decide)
    · simp
  have y13 : SpoilP h34 h12.size s13 (pScan L lo hi most).length := (o13.ext (x16.after ((x1628.after x32).after x34))).spoil fun i p hp => by
    have hp := List.mem_of_getElem? hp
    unfold pScan at hp
    split at hp
    · unfold scanOf at hp
      exact Nat.le_trans (a.val p (List.mem_filter.1 (List.mem_of_mem_take hp)).1) (by decide)
    · cases hp
  have l7' : s7.len ≤ 140737488355328 := by rw [OwnB.len o7]; exact l7
  refine ct_Spoil y7 l7' fun h37 x37 => ?_
  refine spoil_all (y13.spoilt x37) o13.len (by omega) fun h42 x42 => ?_
  have xs : Ext h6.size h34 h42 := x37.ext.trans (x42.ext.less x612.size)
  have x642 := x634.trans xs
  refine ct_Pairs (o1.ext x642).pairs (a.at_.ext (x2.after x642)) (by omega) fun h47 x47 => ?_
  rw [decide_eq_true rfl]
  exact q _ ((x2.after x642).after x47)
end
end Go.Dn.W
