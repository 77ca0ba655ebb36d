/- Operations: how they lie in the heap; whether they are a batch. -/
import Derived.Test.YtemelcaoepaoiaaDnPlc
namespace Go.Dn.W
open Go Go.Dn Go.Proofs

structure Opn where
  key : ByteArray
  val : List UInt8
  del : Bool
  deriving DecidableEq

theorem und_op : ∃ d, PG.underlying ty_api_Op = some d := Option.isSome_iff_exists.1 (by kernel_rfl)
theorem agg_op : isAggB PG ty_api_Op = true := by kernel_rfl
theorem sz_op : szOf PG ty_api_Op = 3 := by kernel_rfl
theorem und_ops : PG.underlying ty_sl_api_Op = some (.slice ty_api_Op) := by kernel_rfl

/-- the cells of an operation -/
def ocells (k : ByteArray) (v : Sl) (d : Bool) : List Value := [.string k, sval v, .bool d]
theorem one_ocells (k : ByteArray) (v : Sl) (d : Bool) : ∀ u ∈ ocells k v d, u.oneCell' = true := by
  intro u hu
  simp only [ocells, List.mem_cons, List.not_mem_nil, or_false] at hu
  rcases hu with rfl | rfl | rfl <;> rfl

section
variable {h : Mem}

theorem Ld.op {a : Addr} {k : ByteArray} {v : Sl} {d : Bool} {K : ByteArray → Sl → Bool → Prop} (hc : Cells h a (ocells k v d)) (hk : K k v d) : Ld PG ty_api_Op a (.one (.agg [.str, .sl, .bool])) h K := by
  obtain ⟨t, hd⟩ := und_op
  exact Ld.agg hd agg_op sz_op rfl hc ⟨k, .str k, v, .sl v.a v.len v.cap, d, .bool d, hk⟩
theorem St.op {b : Nat} {k k0 : ByteArray} {v v0 : Sl} {d d0 : Bool} {K : Mem → Prop} (hr : h[b]? = some (.cells #[.string k0, sval v0, .bool d0] ty_api_Op (0, 0)))
    (hk : ∀ h', Upd b h h' → h'[b]? = some (.cells #[.string k, sval v, .bool d] ty_api_Op (0, 0)) → K h') : St PG ty_api_Op ⟨b, 0, none⟩ (.agg #[.string k, sval v, .bool d]) h K := by
  obtain ⟨t, hd⟩ := und_op
  exact St.row hd (vs := ocells k v d) rfl sz_op (one_ocells k v d) hr (Nat.le_refl 3) fun h' u r => hk h' u r

def OpAt (h : Mem) (a : Addr) (o : Opn) : Prop := ∃ v : Sl, Cells h a (ocells o.key v o.del) ∧ BytesSl h v o.val
theorem OpAt.ext {h h' : Mem} {a : Addr} {o : Opn} (x : OpAt h a o) (e : Ext h.size h h') : OpAt h' a o := let ⟨v, c, b⟩ := x; ⟨v, c.ext e, b.ext e⟩
structure OpsAt (h : Mem) (s : Sl) (l : List Opn) : Prop where
  len : s.len = l.length
  at_ : ∀ (i : Nat) (o : Opn), l[i]? = some o → ∃ a, s.a = some a ∧ OpAt h (a.add (i * 3)) o
  nil : s.a = none → s.cap = 0
theorem OpsAt.ext {h h' : Mem} {s : Sl} {l : List Opn} (x : OpsAt h s l) (e : Ext h.size h h') : OpsAt h' s l := ⟨x.len, fun i p hp => let ⟨a, ha, hb⟩ := x.at_ i p hp; ⟨a, ha, hb.ext e⟩, x.nil⟩

theorem ct_ContainsFunc {f : Value} {p : Opn → Bool} {s : Sl} {l : List Opn} {Q : Bool → Mem → Prop} (a : OpsAt h s l) (hl : l.length ≤ 140737488355328)
    (hf : ∀ (H : Mem) (o : Opn) (v : Sl) (K : Bool → Mem → Prop), BytesSl H v o.val → (∀ h', Ext H.size H h' → K (p o) h') → CallV PG f [.agg #[.string o.key, sval v, .bool o.del]] (.one (.leaf .bool)) H K)
    (q : ∀ h', Ext h.size h h' → Q (l.any p) h') : CallF PG fn_slices_ContainsFunc_api_Op_api_Op_ [sval s, f] (.one (.leaf .bool)) h Q := by
  refine call_slices_ContainsFunc_api_Op_api_Op_ (call_slices_IndexFunc_api_Op_api_Op_ ?_)
  refine ⟨fun n h' => ∃ i : Nat, n = (i : Int) ∧ i ≤ l.length ∧ (l.take i).any p = false ∧ Ext h.size h h', fun n _ => l.length - n.toNat, ⟨0, rfl, Nat.zero_le _, rfl, Ext.refl _ _⟩, ?_⟩
  rintro _ n h1 ⟨i, rfl, hi, hn, x⟩
  refine Br.mk (fun h2 => ?_) fun h2 => ?_
  · simp only [decide_eq_true_eq] at h2
    rw [a.len] at h2
    obtain ⟨o, ho⟩ : ∃ o, l[i]? = some o := ⟨_, List.getElem?_eq_getElem (by omega)⟩
    obtain ⟨ad, ha, v, hc, hb⟩ := (a.ext x).at_ i o ho
    refine Idx.mk ha (by rw [a.len]; omega) ?_
    rw [nat_mul]
    refine Ld.op hc (hf h1 o v _ hb fun h3 x3 => ?_)
    have xx := x.trans (x3.less x.size)
    refine Br.mk (fun h4 => ?_) fun h4 => ?_
    · have : decide ((i : Int) ≥ 0) = l.any p := by
        have h5 : l.any p = true := List.any_eq_true.2 ⟨o, List.mem_of_getElem? ho, h4⟩
        rw [h5]; simp
      show Q (decide ((i : Int) ≥ 0)) h3
      rw [this]; exact q _ xx
    · rw [wrap_succ (by omega)]
      refine ⟨⟨i + 1, rfl, by omega, ?_, xx⟩, by simp only [Int.toNat_natCast]; omega⟩
      rw [List.take_add_one, ho, List.any_append, hn]
      simp [h4]
  · simp only [decide_eq_false_iff_not] at h2
    rw [a.len] at h2
    have e : i = l.length := by omega
    rw [e, List.take_length] at hn
    have : decide ((-1 : Int) ≥ 0) = l.any p := by rw [hn]; rfl
    show Q (decide ((-1 : Int) ≥ 0)) h1
    rw [this]; exact q _ x

def bad1 (o : Opn) : Bool := !pMay o.key || (o.del && decide (o.val.length > 0))
def bad2 (o : Opn) : Bool := decide (o.val.length > 4096)

theorem ct_Check_1 {o : Opn} {v : Sl} {Q : Bool → Mem → Prop} (b : BytesSl h v o.val) (q : ∀ h', Ext h.size h h' → Q (bad1 o) h') : CallF PG fn_batch_Check_1 [.agg #[.string o.key, sval v, .bool o.del]] (.one (.leaf .bool)) h Q := by
  refine call_batch_Check_1 (New.go fun h1 _ x1 z1 r1 => Ld.key (row_cell r1 rfl) (ct_May ?_))
  have q := q _ x1
  unfold bad1 at q
  refine Br.mk (fun e => ?_) fun e => ?_
  · rw [e] at q; exact q
  · rw [e, Bool.false_or] at q
    refine Ld.flag (v := o.del) (by rw [add_off]; exact row_cell r1 rfl) (Br.mk (fun e2 => ?_) fun e2 => ?_)
    · rw [e2, Bool.true_and] at q
      refine Ld.bytes (v := v) (by rw [add_off]; exact row_cell r1 rfl) ?_
      have : decide ((v.len : Int) > 0) = decide (o.val.length > 0) := by rw [b.len, decide_eq_decide]; omega
      rw [this]; exact q
    · rw [e2, Bool.false_and] at q; exact q
theorem ct_Check_2 {o : Opn} {v : Sl} {Q : Bool → Mem → Prop} (b : BytesSl h v o.val) (q : ∀ h', Ext h.size h h' → Q (bad2 o) h') : CallF PG fn_batch_Check_2 [.agg #[.string o.key, sval v, .bool o.del]] (.one (.leaf .bool)) h Q := by
  refine call_batch_Check_2 (New.go fun h1 _ x1 z1 r1 => Ld.bytes (v := v) (by rw [add_off]; exact row_cell r1 rfl) ?_)
  have : decide ((v.len : Int) > 4096) = bad2 o := by unfold bad2; rw [b.len, decide_eq_decide]; omega
  rw [this]; exact q _ x1

def opLen (o : Opn) : Nat := o.key.size + o.val.length
def opSum : List Opn → Nat
  | [] => 0
  | o :: l => opLen o + opSum l
theorem opSum_append : ∀ a b : List Opn, opSum (a ++ b) = opSum a + opSum b
  | [], b => by simp [opSum]
  | o :: a, b => by simp [opSum, opSum_append a b]; omega
def satS (n : Nat) : Nat := min n 2147483647

theorem ct_Size {s : Sl} {l : List Opn} {Q : Int → Mem → Prop} (a : OpsAt h s l) (hl : l.length ≤ 140737488355328) (hk : ∀ (i : Nat) (o : Opn), l[i]? = some o → opLen o ≤ 281474976710656)
    (q : ∀ h', Ext h.size h h' → Q ((satS (opSum l) : Nat) : Int) h') : CallF PG fn_batch_Size [sval s] (.one (.leaf (.int .i64))) h Q := by
  refine call_batch_Size ?_
  refine ⟨fun n m h' => ∃ i : Nat, m = (i : Int) ∧ n = ((satS (opSum (l.take i)) : Nat) : Int) ∧ i ≤ l.length ∧ Ext h.size h h', fun _ n _ => l.length - n.toNat, ⟨0, rfl, rfl, Nat.zero_le _, Ext.refl _ _⟩, ?_⟩
  rintro _ n m h1 ⟨i, rfl, rfl, hi, x⟩
  refine Br.mk (fun h2 => ?_) fun h2 => ?_
  · simp only [decide_eq_true_eq] at h2
    rw [a.len] at h2
    obtain ⟨o, ho⟩ : ∃ o, l[i]? = some o := ⟨_, List.getElem?_eq_getElem (by omega)⟩
    obtain ⟨ad, ha, v, hc, hb⟩ := (a.ext x).at_ i o ho
    refine Idx.mk ha (by rw [a.len]; omega) ?_
    rw [nat_mul]
    refine Ld.op hc (New.go fun h3 _ x3 z3 r3 => St.op (v0 := ⟨none, 0, 0⟩) r3 fun h4 u4 r4 => ?_)
    have x4 : Ext h1.size h1 h4 := x3.trans (u4.ext (Nat.le_refl _))
    refine Ld.key (row_cell r4 rfl) (Ld.bytes (v := v) (by rw [add_off]; exact row_cell r4 rfl) ?_)
    have ho' := hk i o ho
    have hs : satS (opSum (l.take i)) ≤ 2147483647 := Nat.min_le_right _ _
    have e1 : opSum (l.take (i + 1)) = opSum (l.take i) + opLen o := by
      rw [List.take_add_one, ho, opSum_append]; simp [opSum]
    have e2 : IntKind.i64.wrap (IntKind.i64.wrap (((satS (opSum (l.take i)) : Nat) : Int) + (o.key.size : Int)) + (v.len : Int)) = ((satS (opSum (l.take i)) + opLen o : Nat) : Int) := by
      unfold opLen at ho' ⊢
      rw [hb.len, i64_eq (n := ((satS (opSum (l.take i)) : Nat) : Int) + (o.key.size : Int)) (by omega) (by omega), i64_eq (by omega) (by omega)]
      omega
    rw [e2, wrap_succ (by omega)]
    have e3 : (if 2147483647 < ((satS (opSum (l.take i)) + opLen o : Nat) : Int) then 2147483647 else ((satS (opSum (l.take i)) + opLen o : Nat) : Int)) = ((satS (opSum (l.take (i + 1))) : Nat) : Int) := by
      rw [e1]
      unfold satS
      split <;> omega
    rw [e3]
    exact ⟨⟨i + 1, rfl, rfl, by omega, x.trans (x4.less x.size)⟩, by simp only [Int.toNat_natCast]; omega⟩
  · simp only [decide_eq_false_iff_not] at h2
    rw [a.len] at h2
    have e : i = l.length := by omega
    rw [e, List.take_length]
    exact q _ x

/-- why operations are no batch: 0, if they are one -/
def pBatch (l : List Opn) : Int :=
  if l.length = 0 ∨ l.any bad1 = true then 1 else if l.length > 32 ∨ opSum l > 32768 ∨ l.any bad2 = true then 4 else 0

theorem ct_batch_Check {s : Sl} {l : List Opn} {Q : Int → Mem → Prop} (a : OpsAt h s l) (hl : l.length ≤ 140737488355328) (hk : ∀ (i : Nat) (o : Opn), l[i]? = some o → opLen o ≤ 281474976710656)
    (q : ∀ h', Ext h.size h h' → Q (pBatch l) h') : CallF PG fn_batch_Check [sval s] (.one (.leaf (.int .i64))) h Q := by
  refine call_batch_Check (Br.mk (fun h0 => ?_) fun h0 => ?_)
  · have h0 : l.length = 0 := by rw [a.len] at h0; simpa using h0
    have := q h (Ext.refl _ _)
    unfold pBatch at this
    rw [if_pos (.inl h0)] at this
    exact this
  · have h0 : l.length ≠ 0 := by rw [a.len] at h0; simpa using h0
    refine ct_ContainsFunc a hl (fun H o v K b k => callV_fn (ct_Check_1 b k)) fun h1 x1 => Br.mk (fun e1 => ?_) fun e1 => ?_
    · have := q h1 x1
      unfold pBatch at this
      rw [if_pos (.inr e1)] at this
      exact this
    · have n1 : ¬ (l.length = 0 ∨ l.any bad1 = true) := by rw [e1]; simp; intro h'; exact h0 (by rw [h']; rfl)
      refine Br.mk (fun e2 => ?_) fun e2 => ?_
      · simp only [decide_eq_true_eq] at e2
        rw [a.len] at e2
        have := q h1 x1
        unfold pBatch at this
        rw [if_neg n1, if_pos (.inl (by omega))] at this
        exact this
      · simp only [decide_eq_false_iff_not] at e2
        rw [a.len] at e2
        refine ct_Size (a.ext x1) hl hk fun h2 x2 => Br.mk (fun e3 => ?_) fun e3 => ?_
        · simp only [decide_eq_true_eq] at e3
          have := q h2 (x1.trans (x2.less x1.size))
          unfold pBatch at this
          rw [if_neg n1, if_pos (.inr (.inl (by unfold satS at e3; omega)))] at this
          exact this
        · simp only [decide_eq_false_iff_not] at e3
          have xx := x1.trans (x2.less x1.size)
          refine ct_ContainsFunc (a.ext xx) hl (fun H o v K b k => callV_fn (ct_Check_2 b k)) fun h3 x3 => Br.mk (fun e4 => ?_) fun e4 => ?_
          · have := q h3 (xx.trans (x3.less xx.size))
            unfold pBatch at this
            rw [if_neg n1, if_pos (.inr (.inr e4))] at this
            exact this
          · have := q h3 (xx.trans (x3.less xx.size))
            unfold pBatch at this
            have n2 : ¬ (l.length > 32 ∨ opSum l > 32768 ∨ l.any bad2 = true) := by
              rw [e4]
              unfold satS at e3
              rintro (h' | h' | h')
              · omega
              · omega
              · cases h'
            rw [if_neg n1, if_neg n2] at this
            exact this
end
end Go.Dn.W
