/- Laws of layer 11: what operations make of pairs; some, and then others. -/
import Derived.Test.YtemelcaoepaoiaaDnPArg
import Derived.Test.YtemelcaoepaoiaaDnWA
set_option linter.unusedVariables false
namespace Go.Dn
open Go
theorem add_add' (a : Addr) (m n : Nat) : (a.add m).add n = a.add (m + n) := by
  unfold Addr.add
  by_cases hm : m = 0
  · subst hm; simp
  · by_cases hn : n = 0
    · subst hn; simp
    · simp [hm, hn, Nat.add_assoc]
/-- cells, one element behind the other -/
theorem cells_flatten {h : Mem} {a : Addr} {n : Nat} {css : List (List Value)} (hn : 0 < n) (hw : ∀ cs ∈ css, cs.length = n) (hc : ∀ i cs, css[i]? = some cs → Cells h (a.add (i * n)) cs) : Cells h a css.flatten := by
  intro k v hk
  have key : ∀ (css : List (List Value)) (k : Nat), (∀ cs ∈ css, cs.length = n) → css.flatten[k]? = some v → ∃ i j cs, k = i * n + j ∧ css[i]? = some cs ∧ cs[j]? = some v := by
    intro css
    induction css with
    | nil => intro k _ h; simp at h
    | cons c css ih =>
      intro k hw h
      have hcl := hw c (by simp)
      rw [List.flatten_cons] at h
      rcases Nat.lt_or_ge k c.length with hlt | hge
      · rw [List.getElem?_append_left hlt] at h
        exact ⟨0, k, c, by omega, rfl, h⟩
      · rw [List.getElem?_append_right hge] at h
        obtain ⟨i, j, cs, e, h1, h2⟩ := ih _ (fun c hc => hw c (by simp [hc])) h
        exact ⟨i + 1, j, cs, by rw [Nat.add_mul]; omega, h1, h2⟩
  obtain ⟨i, j, cs, rfl, h1, h2⟩ := key css k hw hk
  have h3 := hc i cs h1 j v h2
  rw [add_add'] at h3
  exact h3
end Go.Dn
namespace Go.Dn.W
open Go Go.Dn Go.Proofs

theorem pDo_right {l : List Pr} {ops : List Opn} : Right (pDo l ops) := by
  unfold pDo
  split
  · rename_i h
    unfold pErr at h
    split at h
    · rename_i r
      exact r.doAll fun o ho => ((pBatch_zero h).2 o ho).1
    · cases h
  · exact Right.nil
theorem pDo_length {l : List Pr} {ops : List Opn} : (pDo l ops).length ≤ l.length + 32 := by
  unfold pDo
  split
  · rename_i h
    unfold pErr at h
    split at h
    · rename_i r
      have h1 := pBatch_zero h
      have := doAll_length r fun o ho => (h1.2 o ho).1
      omega
    · cases h
  · simp
theorem pErr_zero {l : List Pr} {ops : List Opn} (h : pErr l ops = 0) : Right l ∧ pBatch ops = 0 := by
  unfold pErr at h
  split at h
  · exact ⟨‹_›, h⟩
  · cases h

section
variable {h : Mem}

theorem law_PlainDoes {l t : Sl} {L : List Pr} {O : List Opn} {Q : Bool → Mem → Prop} (a : PairsIn h l L) (b : OpsIn h t O) (q : ∀ h', Ext h.size h h' → Q true h') : wp_dunnagelaw11_PlainDoes l t h Q := by
  have sa := a.size
  have sb := b.size
  refine ct_CopyPairs a.at_ a.short (by omega) fun s1 h2 x2 o1 => ?_
  refine ct_CopyOps (b.at_.ext x2) b.short (by omega) fun s3 h4 x4 o3 => ?_
  refine ct_plain_Do (o1.ext x4).pairs o3.ops (by omega) (by omega) b.ok fun s5 h7 x7 o5 => ?_
  have x07 := (x2.after x4).after x7
  refine ct_ref_Do (a.at_.ext x07) (b.at_.ext x07) (by omega) (by omega) fun s8 h10 x10 o8 => ?_
  refine ct_awake11 fun h12 x12 => ?_
  have x7c := x10.after x12
  have hdl := pDo_length (l := L) (ops := O)
  refine ⟨fun c h' => c = false ∧ Ext h12.size h12 h', ?_, Br.f rfl (ct_Pairs (o5.ext x7c).pairs (o8.ext x12).pairs (by omega) fun h30 x30 => ⟨by simp, x30⟩)⟩
  rintro _ c h16 ⟨rfl, x16⟩
  refine Br.f rfl (Br.f (by simp) ?_)
  refine spoil_pairs (B := h4.size) (o5.ext (x7c.after x16)) (by omega) (pDo_right.short) fun h21 x21 => ?_
  have x4e : Ext h4.size h4 h21 := (x7.after (x7c.after x16)).trans x21.ext
  refine ct_Pairs (o1.ext (x4.after x4e)).pairs (a.at_.ext ((x2.after x4).after x4e)) (by omega) fun h26 x26 => Br.t (by simp) ?_
  refine ct_Ops (o3.ops.ext (x4e.after x26)) (b.at_.ext (((x2.after x4).after x4e).after x26)) (by omega) fun h28 x28 => ?_
  rw [decide_eq_true rfl]
  exact q h28 (((x2.after x4).after x4e).after (x26.after x28))

/-! ### operations that lie in part elsewhere -/

/-- an operation's cells; its value its own, or as it lay -/
def EOpR (h0 : Mem) : ElemRel Opn := fun h B cs o => ∃ v : Sl, cs = ocells o.key v o.del ∧ (OwnB h B ty_uint8 v o.val ∨ BytesSl h0 v o.val)
theorem EOpR.stab (h0 : Mem) : Stab (EOpR h0) := fun _ _ _ _ _ ⟨v, e, o⟩ k => ⟨v, e, o.imp (fun o => OwnB.keep o k) id⟩
theorem OwnL.opsR {h0 : Mem} {B' B : Nat} {s : Sl} {l : List Opn} (x : OwnL ty_api_Op 3 (EOpR h0) h B' B s l) (x0 : Ext h0.size h0 h) : OpsAt h s l := by
  refine ⟨x.len (by decide), fun i o ho => ?_, fun hn => ?_⟩
  · obtain ⟨a, cs, ha, hc, ⟨v, rfl, hv⟩, _⟩ := x.get (by decide) ho
    exact ⟨a, ha, v, hc, hv.elim (fun o => o.bytes) fun b => b.ext x0⟩
  · obtain ⟨css, o, _⟩ := x
    exact (Owns.nil0 o hn).2
theorem OwnL.toR {B' B : Nat} {s : Sl} {l : List Opn} (h0 : Mem) (x : OwnL ty_api_Op 3 EOp h B' B s l) : OwnL ty_api_Op 3 (EOpR h0) h B' B s l := by
  obtain ⟨css, o, hh⟩ := x
  exact ⟨css, o, hh.len, hh.width, hh.one, fun i cs y hi hy => let ⟨v, e, ov⟩ := hh.is i cs y hi hy; ⟨v, e, .inl ov⟩⟩
/-- the cells of operations as they lie -/
theorem OpsAt.css {h0 : Mem} {s : Sl} {l : List Opn} (a : OpsAt h0 s l) (h : Mem) (B : Nat) : ∃ css, LHeads 3 (EOpR h0) h B css l ∧ ∀ p, s.a = some p → Cells h0 p css.flatten := by
  obtain ⟨css, hl, hr⟩ := list_of (n := l.length) (R := fun i (cs : List Value) => ∃ (o : Opn) (v : Sl) (p : Addr), l[i]? = some o ∧ cs = ocells o.key v o.del ∧ s.a = some p ∧ Cells h0 (p.add (i * 3)) cs ∧ BytesSl h0 v o.val) fun i hi => by
    obtain ⟨o, ho⟩ : ∃ o, l[i]? = some o := ⟨_, List.getElem?_eq_getElem hi⟩
    obtain ⟨p, hp, v, hc, hb⟩ := a.at_ i o ho
    exact ⟨_, o, v, p, ho, rfl, hp, hc, hb⟩
  have hw : ∀ cs ∈ css, cs.length = 3 := fun cs hcs => by
    obtain ⟨i, hi⟩ := List.getElem?_of_mem hcs
    obtain ⟨o, v, p, _, rfl, _⟩ := hr i cs hi
    rfl
  refine ⟨css, ⟨hl, hw, fun cs hcs => ?_, fun i cs y hi hy => ?_⟩, fun p hp => ?_⟩
  · obtain ⟨i, hi⟩ := List.getElem?_of_mem hcs
    obtain ⟨o, v, p, _, rfl, _⟩ := hr i cs hi
    exact one_ocells _ _ _
  · obtain ⟨o, v, p, ho, rfl, _, _, hb⟩ := hr i cs hi
    rw [hy] at ho; cases ho
    exact ⟨v, rfl, .inr hb⟩
  · refine cells_flatten (n := 3) (by decide) hw fun i cs hi => ?_
    obtain ⟨o, v, p', _, _, hp', hc, _⟩ := hr i cs hi
    rw [hp] at hp'; cases hp'
    exact hc

/-- operations handed in, appended to a copy -/
theorem append_ops {h0 : Mem} {B : Nat} {s t : Sl} {l m : List Opn} {K : Sl → Mem → Prop} (x0 : Ext h0.size h0 h) (hB0 : h0.size ≤ B) (hB : B ≤ h.size) (x : OwnL ty_api_Op 3 EOp h B B s l) (b : OpsAt h0 t m) (hs : (l.length + m.length) * 48 ≤ 140737488355328)
    (k : ∀ s' h', OpsAt h' s' (l ++ m) → Ext B h h' → K s' h') : PrimT PG (Builtin.append_ #[ty_sl_api_Op, ty_sl_api_Op] ty_sl_api_Op #[sval s, sval t]) (.one (.leaf .sl)) h K := by
  obtain ⟨css, hh, hc⟩ := b.css h B
  refine OwnL.pushAll und_ops info_op (by decide) (EOpR.stab h0) hB (x.toR h0) (v := t) (fun p hp i v hv => x0.cellAt (cellAt_lt (hc p hp i v hv)) (hc p hp i v hv)) b.len (fun hn => ?_) hh (by decide) (by decide) hs fun s' h' o' e' g' _ => k s' h' (OwnL.opsR o' (x0.trans (e'.less hB0))) e'
  refine ⟨?_, b.nil hn⟩
  rw [b.len]
  cases m with
  | nil => rfl
  | cons o m => obtain ⟨p, hp, _⟩ := b.at_ 0 o rfl; rw [hn] at hp; cases hp

theorem law_PlainBoth {l a b : Sl} {L : List Pr} {A B : List Opn} {Q : Bool → Mem → Prop} (hl : PairsIn h l L) (ha : OpsIn h a A) (hb : OpsIn h b B) (q : ∀ h', Ext h.size h h' → Q true h') : wp_dunnagelaw11_PlainBoth l a b h Q := by
  have sl := hl.size
  have sa := ha.size
  have sb := hb.size
  refine ct_plain_Do hl.at_ ha.at_ (by omega) (by omega) ha.ok fun s1 h3 x3 o1 => ?_
  refine ct_awake11 fun h5 x5 => ?_
  refine ⟨fun c h' => c = (pErr L A != 0) ∧ Ext h5.size h5 h', ?_, Br.f rfl ⟨rfl, Ext.refl _ _⟩⟩
  rintro _ c h9 ⟨rfl, x9⟩
  have x59 := x5.after x9
  have x09 := x3.after x59
  refine Br.mk (fun e => ct_awake11 fun h11 x11 => q h11 (x09.after x11)) fun e => ?_
  have e0 : pErr L A = 0 := by simpa using e
  obtain ⟨r, eA⟩ := pErr_zero e0
  have hA := pBatch_zero eA
  have hdl := pDo_length (l := L) (ops := A)
  have eX : pDo L A = doAll L A := if_pos e0
  refine ct_plain_Do (o1.ext x59).pairs (hb.at_.ext x09) (by omega) (by omega) hb.ok fun s12 h14 x14 o12 => ?_
  refine ct_CopyOps (ha.at_.ext (x09.after x14)) ha.short (by omega) fun s15 h16 x16 o15 => ?_
  have x016 := x09.after (x14.after x16)
  refine append_ops (B := h14.size) x016 (x09.after x14).size x16.size o15 hb.at_ (by omega) fun s17 h18 o17 x18 => ?_
  have x14c : Ext h14.size h14 h18 := x16.trans x18
  have x018 := (x09.after x14).after x14c
  have hok : ∀ (i : Nat) (o : Opn), (A ++ B)[i]? = some o → opLen o ≤ 281474976710656 := fun i o ho => by
    rcases List.mem_append.1 (List.mem_of_getElem? ho) with h' | h' <;> obtain ⟨j, hj⟩ := List.getElem?_of_mem h'
    · exact ha.ok j o hj
    · exact hb.ok j o hj
  refine ct_plain_Do (hl.at_.ext x018) o17 (by omega) (by rw [List.length_append]; omega) hok fun s19 h21 x21 o19 => ?_
  have x021 := x018.after x21
  refine Br.mk (fun _ => q _ x021) fun e1 => Br.mk (fun _ => q _ x021) fun e2 => ?_
  have e1 : pErr (pDo L A) B = 0 := by simpa using e1
  have e2 : pErr L (A ++ B) = 0 := by simpa using e2
  have hdl2 := pDo_length (l := pDo L A) (ops := B)
  refine ct_Pairs (o12.ext (x14c.after x21)).pairs o19.pairs (by omega) fun h23 x23 => ?_
  have : pDo (pDo L A) B = pDo L (A ++ B) := by
    unfold pDo at e1 ⊢
    rw [if_pos e0] at e1 ⊢
    rw [if_pos e1, if_pos e2, doAll_append]
  rw [this, decide_eq_true rfl]
  exact q h23 (x021.after x23)
end
end Go.Dn.W
