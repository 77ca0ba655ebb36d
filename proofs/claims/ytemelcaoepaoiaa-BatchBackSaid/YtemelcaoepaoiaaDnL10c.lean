/- The law of batches and their records. -/
import Derived.Test.YtemelcaoepaoiaaDnWrB
import Derived.Test.YtemelcaoepaoiaaDnPArg
import Derived.Test.YtemelcaoepaoiaaDnWA
import Derived.Test.YtemelcaoepaoiaaDnOwn
set_option linter.unusedVariables false
namespace Go.Dn.W
open Go Go.Dn Go.Proofs

/-! ### what is handed in -/
abbrev Rf : Type := Int × Int × Int
def rfcells (r : Rf) : List Value := [.int .u64 r.1, .int .i64 r.2.1, .int .i64 r.2.2]
structure RefsIn (h : Mem) (s : Sl) (l : List Rf) : Prop where
  len : s.len = l.length
  at_ : ∀ (i : Nat) (r : Rf), l[i]? = some r → ∃ a, s.a = some a ∧ Cells h (a.add (i * 3)) (rfcells r)
  top : ∀ r ∈ l, r.1 ≤ 18446744073709551615
  size : l.length ≤ 140737488355328
theorem RefsIn.ext {h h' : Mem} {s : Sl} {l : List Rf} (x : RefsIn h s l) (e : Ext h.size h h') : RefsIn h' s l := ⟨x.len, fun i r hr => let ⟨a, ha, hc⟩ := x.at_ i r hr; ⟨a, ha, hc.ext e⟩, x.top, x.size⟩
theorem und_refs : PG.underlying ty_sl_api_Ref = some (.slice ty_api_Ref) := by kernel_rfl
theorem bytesOf_ref : PG.bytesOf ty_api_Ref = 24 := by kernel_rfl
theorem cellsOf_ref : PG.cellsOf ty_api_Ref = 3 := by kernel_rfl
theorem cellsOf_u : PG.cellsOf ty_uint64 = 1 := by kernel_rfl
theorem cellsOf_i : PG.cellsOf ty_int = 1 := by kernel_rfl
theorem fields_ref : fieldsOf ty_api_Ref = [(ty_uint64, 0), (ty_int, 1), (ty_int, 2)] := by kernel_rfl
section
variable {H : Type} {enc : TypeId × Value → H} {w : World} {R : Nat}
theorem arg_ref {cs : List Value} (a : Arg enc PG w ty_api_Ref cs R) : ∃ r : Rf, cs = rfcells r ∧ r.1 ≤ 18446744073709551615 := by
  obtain ⟨fs, hu, hf⟩ := fields_spec fields_ref (by simp)
  obtain ⟨hl, hr⟩ := a.struct hu
  obtain ⟨f0, hf0, ht0, ho0⟩ := hf 0 _ _ rfl
  obtain ⟨f1, hf1, ht1, ho1⟩ := hf 1 _ _ rfl
  obtain ⟨f2, hf2, ht2, ho2⟩ := hf 2 _ _ rfl
  have a0 := hr 0 f0 hf0
  have a1 := hr 1 f1 hf1
  have a2 := hr 2 f2 hf2
  rw [ht0, ho0, cellsOf_u] at a0
  rw [ht1, ho1, cellsOf_i] at a1
  rw [ht2, ho2, cellsOf_i] at a2
  rw [cellsOf_ref] at hl
  obtain ⟨x, hx, hx1⟩ := a0.int und_u
  obtain ⟨y, hy, _⟩ := a1.int und_i
  obtain ⟨z, hz, _⟩ := a2.int und_i
  have hm : IntKind.u64.max = 18446744073709551615 := by decide
  rw [hm] at hx1
  refine ⟨(x, y, z), ?_, hx1.2⟩
  match cs, hl with
  | [c0, c1, c2], _ => simp at hx hy hz; rw [hx, hy, hz]; rfl
theorem in_refs {v : Value} {base : Nat} (ok : Value.okWide PG w .any base ty_sl_api_Ref v) (a : Arg enc PG w ty_sl_api_Ref v.cells.toList R) (hR : R ≤ 140737488351232 := by decide) : ∃ (s : Sl) (l : List Rf), v = sval s ∧ RefsIn w.heap s l := by
  obtain ⟨x, n, c, rfl⟩ := WideShapes.okWide_slice und_refs ok
  obtain ⟨s, e, hn, hl, hb, _, he⟩ := a.slice und_refs
  rw [bytesOf_ref] at hb
  rw [cellsOf_ref] at he
  obtain ⟨l, hll, hr⟩ := list_of (n := s.len) (R := fun i (r : Rf) => ∃ ad, s.a = some ad ∧ Cells w.heap (ad.add (i * 3)) (rfcells r) ∧ r.1 ≤ 18446744073709551615) fun i hi => by
    obtain ⟨p, ecs, hp, hc, _, ha⟩ := he i (by omega)
    obtain ⟨r, rfl, h1⟩ := arg_ref ha
    exact ⟨r, p, hp, hc, h1⟩
  refine ⟨s, l, by simpa [Value.cells] using e, hll.symm, fun i r hi => let ⟨ad, h1, h2, _⟩ := hr i r hi; ⟨ad, h1, h2⟩, fun r hm => ?_, by omega⟩
  obtain ⟨i, hi⟩ := List.getElem?_of_mem hm
  obtain ⟨_, _, _, h3⟩ := hr i r hi
  exact h3
theorem in_u64 {v : Value} {base : Nat} (ok : Value.okWide PG w .any base ty_uint64 v) (a : Arg enc PG w ty_uint64 v.cells.toList R) : ∃ n : Int, v = .int .u64 n ∧ 0 ≤ n ∧ n ≤ 18446744073709551615 := by
  obtain ⟨x, rfl⟩ := WideShapes.okWide_int und_u ok
  obtain ⟨s, e, i⟩ := a.int und_u
  refine ⟨s, by simpa [Value.cells] using e, ?_⟩
  have h1 : IntKind.u64.min = 0 := by decide
  have h2 : IntKind.u64.max = 18446744073709551615 := by decide
  rw [h1, h2] at i
  exact i
end

section
variable {h : Mem}
theorem St.ref {b : Nat} {c : Chg} {x y z : Nat} {K : Mem → Prop} (hr : h[b]? = some (.cells (chcells c).toArray ty_api_Change (0, 0)))
    (hk : ∀ h', Upd b h h' → h'[b]? = some (.cells (chcells ⟨c.key, x, y, z, c.del⟩).toArray ty_api_Change (0, 0)) → K h') : St PG ty_api_Ref ((⟨b, 0, none⟩ : Addr).add 1) (.agg #[.int .u64 (x : Int), .int .i64 (y : Int), .int .i64 (z : Int)]) h K := by
  obtain ⟨t, hd⟩ := und_ref
  rw [add_off]
  exact St.row hd (vs := [.int .u64 (x : Int), .int .i64 (y : Int), .int .i64 (z : Int)]) rfl sz_ref (by intro u hu; simp only [List.mem_cons, List.not_mem_nil, or_false] at hu; rcases hu with rfl | rfl | rfl <;> rfl) hr (show 4 ≤ 5 by decide) fun h' u r => hk h' u r

/-- the record in block kr bears the changes t -/
def RecAt (h : Mem) (kr : Nat) (seq : Nat) (t : Sl) : Prop := h[kr]? = some (.cells (rcells 1 seq t 0 0 0 0).toArray ty_api_Record (0, 0))
theorem fits_push {B kr kc seq : Nat} {t : Sl} {cs : List Chg} {c : Chg} {F : Mem → Prop} (hB : B ≤ kr) (hr : RecAt h kr seq t) (hc : h[kc]? = some (.cells (chcells c).toArray ty_api_Change (0, 0))) (o : OwnC h B t cs) (hs : cs.length ≤ 1000)
    (q : ∀ t' h', RecAt h' kr seq t' → OwnC h' B t' (cs ++ [c]) → Ext B h h' → F h') :
    Ld PG ty_sl_api_Change ((Addr.mk kr 0 none).add 2) (Kd.one (Cmp.leaf Leaf.sl)) h fun (s47 : Sl) =>
      Ld PG ty_api_Change (Addr.mk kc 0 none) (Kd.one (Cmp.agg [Leaf.str, Leaf.int IntKind.u64, Leaf.int IntKind.i64, Leaf.int IntKind.i64, Leaf.bool])) h
        fun (t48 : ByteArray) (n49 n50 n51 : Int) (b52 : Bool) =>
        New (Obj.cells #[Value.string t48, Value.int IntKind.u64 n49, Value.int IntKind.i64 n50, Value.int IntKind.i64 n51, Value.bool b52] 43) h fun (k53 : Nat) (h54 : Mem) =>
          PrimT PG (Builtin.append_ #[ty_sl_api_Change, ty_sl_api_Change] ty_sl_api_Change #[Value.slice s47.a s47.len s47.cap, Value.slice (some (Addr.mk k53 0 none)) 1 1])
            (Kd.one (Cmp.leaf Leaf.sl)) h54 fun (s55 : Sl) (h56 : Mem) =>
            St PG ty_sl_api_Change ((Addr.mk kr 0 none).add 2) (Value.slice s55.a s55.len s55.cap) h56 F := by
  have hkr := (Array.getElem?_eq_some_iff.1 hr).1
  refine Ld.chs (v := t) (by rw [add_off]; exact row_cell hr rfl) (Ld.chg (Cells.whole hc) (New.go fun h54 _ x54 z54 r54 => ?_))
  have o54 := o.ext ECh.stab x54
  refine OwnL.push (bytes := 48) und_changes info_chg (by decide) ECh.stab (by have := x54.size; omega) o54 (Cells.whole (cs := chcells c) r54) rfl (one_chcells c) rfl (by decide) (by decide) (by omega) fun t' h56 o56 x56 g56 _ => ?_
  have r54' : h54[kr]? = _ := (x54.block kr hkr).trans hr
  have r56 : h56[kr]? = some (.cells (rcells 1 seq t 0 0 0 0).toArray ty_api_Record (0, 0)) := by
    refine (g56.block kr (by omega) fun a ha e => ?_).trans r54'
    obtain ⟨_, ow, _⟩ := o54
    obtain ⟨_, _, c', hc'⟩ := Owns.blk ow ha
    rw [← e, r54'] at hc'
    exact absurd hc' (by intro e; cases e)
  rw [add_off]
  refine St.row und_changes (vs := [sval t']) rfl (by kernel_rfl) (by intro u hu; simp only [List.mem_cons, List.not_mem_nil, or_false] at hu; subst hu; rfl) r56 (show 3 ≤ 7 by decide) fun h57 u57 r57 => ?_
  refine q t' h57 r57 ?_ ((x54.less (by omega)).trans (x56.trans (u57.ext hB)))
  obtain ⟨css, ow, hh⟩ := o56
  refine ⟨css, Owns.kept ow fun a ha => u57.block _ fun e => ?_, ⟨hh.len, hh.width, hh.one, hh.is⟩⟩
  obtain ⟨_, _, c', hc'⟩ := Owns.blk ow ha
  rw [e, r56] at hc'
  exact absurd hc' (by intro e; cases e)

/-- a batch's changes -/
def FitTo (l : List Opn) (cs : List Chg) : Prop := ∀ (j : Nat) (c : Chg), cs[j]? = some c → c.Ok ∧ ∃ o, l[j]? = some o ∧ c.key = o.key
theorem FitTo.snoc {l : List Opn} {cs : List Chg} {c : Chg} {o : Opn} (x : FitTo l cs) (ok : c.Ok) (ho : l[cs.length]? = some o) (hk : c.key = o.key) : FitTo l (cs ++ [c]) := by
  intro j d hd
  rcases Nat.lt_or_ge j cs.length with hlt | hge
  · rw [List.getElem?_append_left hlt] at hd; exact x j d hd
  · rw [List.getElem?_append_right hge] at hd
    cases he : j - cs.length with
    | zero =>
      rw [he] at hd; cases hd
      have : j = cs.length := by omega
      subst this
      exact ⟨ok, o, ho, hk⟩
    | succ m => rw [he] at hd; simp at hd
theorem FitTo.rises {l : List Opn} {cs : List Chg} (x : FitTo l cs) (r : RisesO l) : RisesC cs := by
  unfold RisesC
  rw [List.pairwise_iff_getElem]
  intro i j hi hj hij
  obtain ⟨_, o, ho, e1⟩ := x i _ (List.getElem?_eq_getElem hi)
  obtain ⟨_, o', ho', e2⟩ := x j _ (List.getElem?_eq_getElem hj)
  rw [e1, e2]; exact r.lt hij ho ho'

theorem law_BatchFits {sO sR : Sl} {sq : Int} {O : List Opn} {R : List Rf} {Q : Bool → Mem → Prop} (b : OpsIn h sO O) (hq : 0 ≤ sq ∧ sq ≤ 18446744073709551615) (rf : RefsIn h sR R) (q : ∀ h', Ext h.size h h' → Q true h') : wp_dunnagelaw10_BatchFits sO sq sR h Q := by
  have sb := b.size
  obtain ⟨seq, rfl⟩ := Int.eq_ofNat_of_zero_le hq.1
  have hseq : seq ≤ 18446744073709551615 := by omega
  refine ct_awake10 fun h2 x2 => ?_
  refine ⟨fun c h' => c = (pBatch O != 0) ∧ Ext h2.size h2 h', ?_, Br.f rfl (ct_batch_Check (b.at_.ext x2) (by omega) b.ok fun h4 x4 => ⟨rfl, x4⟩)⟩
  rintro _ c5 h6 ⟨rfl, x6⟩
  refine ⟨fun c h' => c = ((pBatch O != 0) || decide ((seq : Int) < 1)) ∧ h' = h6, ?_, Br.mk (fun e => ⟨by rw [e]; rfl, rfl⟩) fun e => ⟨by rw [e]; rfl, rfl⟩⟩
  rintro _ c9 h10 ⟨rfl, rfl⟩
  have x010 := x2.after x6
  refine Br.mk (fun e => ct_awake10 fun h12 x12 => q _ (x010.after x12)) fun e => ?_
  simp only [Bool.or_eq_false_iff, bne_eq_false_iff_eq, decide_eq_false_iff_not] at e
  obtain ⟨eB, eS⟩ := e
  obtain ⟨hn, hall⟩ := pBatch_zero eB
  have hpl := pLast_length O
  have hpos : 1 ≤ (pLast O).length := by
    have hb' := eB
    unfold pBatch at hb'
    split at hb'
    · cases hb'
    · rename_i h1
      have hO : O ≠ [] := fun e => h1 (.inl (by rw [e]; rfl))
      obtain ⟨o, r, rfl⟩ := List.exists_cons_of_ne_nil hO
      obtain ⟨p, hp⟩ := lastOf_some (ops := o :: r) (k := o.key) ⟨o, by simp, rfl⟩
      have hk := (lastOf_key hp).1
      exact List.length_pos_of_mem (((pLast_is (o :: r)).mem p).2 (by rw [hk]; exact hp))
  refine ct_batch_Last (b.at_.ext x010) b.short (fun i o ho => Nat.le_trans (b.key o (List.mem_of_getElem? ho)) (by decide)) (by omega) fun s13 h14 x14 o14 => ?_
  have l13 := o14.len (by decide)
  refine New.go fun h16 _ x16 z16 r16 => ?_
  obtain ⟨tr, htr⟩ := und_rec
  refine St.row htr (vs := rcells 1 seq ⟨none, 0, 0⟩ 0 0 0 0) rfl sz_rec (by intro u hu; simp only [rcells, List.mem_cons, List.not_mem_nil, or_false] at hu; rcases hu with rfl | rfl | rfl | rfl | rfl | rfl | rfl <;> rfl) r16 (show 7 ≤ 7 by decide) fun h17 u17 r17 => ?_
  have r17 : RecAt h17 h14.size seq ⟨none, 0, 0⟩ := r17
  refine ⟨fun n h' => ∃ (t : Sl) (cs : List Chg), n = (cs.length : Int) ∧ cs.length ≤ (pLast O).length ∧ Ext h14.size h14 h' ∧ RecAt h' h14.size seq t ∧ OwnC h' h14.size t cs ∧ FitTo (pLast O) cs, fun n _ => (pLast O).length - n.toNat,
    ⟨⟨none, 0, 0⟩, [], rfl, Nat.zero_le _, x16.trans (u17.ext (Nat.le_refl _)), r17, OwnL.nil _ _ _ _ _ _, fun j c hc => by simp at hc⟩, ?_⟩
  rintro _ n h22 ⟨t, cs, rfl, hi, x22, r22, oc22, ft⟩
  have k22 := (Array.getElem?_eq_some_iff.1 r22).1
  refine Br.mk (fun e1 => ?_) fun e1 => ?_
  · simp only [decide_eq_true_eq] at e1
    rw [l13] at e1
    obtain ⟨o, ho⟩ : ∃ o, (pLast O)[cs.length]? = some o := ⟨_, List.getElem?_eq_getElem (by omega)⟩
    obtain ⟨hok, hdel⟩ := hall o (pLast_mem (List.mem_of_getElem? ho))
    have hkey : pMay o.key = true := by unfold oOk at hok; simp only [Bool.and_eq_true] at hok; exact hok.1
    have hval : o.val.length ≤ 4096 := by unfold oOk at hok; simp only [Bool.and_eq_true, decide_eq_true_eq] at hok; exact hok.2
    have o22 := o14.ext EOp.stab x22
    obtain ⟨ad, ha, v, hc, hb⟩ := o22.ops.at_ _ o ho
    have hk0 : cellAt h22 (ad.add (cs.length * 3)) = some (.string o.key) := hc 0 _ rfl
    have hd0 : cellAt h22 ((ad.add (cs.length * 3)).add 2) = some (.bool o.del) := hc 2 _ rfl
    have hv0 : cellAt h22 ((ad.add (cs.length * 3)).add 1) = some (sval v) := hc 1 _ rfl
    have ix : ∀ K, K ad → Idx s13.a s13.len (cs.length : Int) K := fun K k => Idx.mk ha (by omega) k
    refine ix _ ?_
    rw [nat_mul]
    refine Ld.key hk0 (ix _ (Ld.flag hd0 (New.go fun h28 _ x28 z28 r28 => ⟨Ld.flag (x28.cellAt (cellAt_lt hd0) hd0) rfl, Ld.key (x28.cellAt (cellAt_lt hk0) hk0) rfl, ?_⟩)))
    refine St.chg (c := ⟨o.key, 0, 0, 0, o.del⟩) r28 rfl fun h31 u31 r31 => ?_
    have x31 : Ext h22.size h22 h31 := x28.trans (u31.ext (Nat.le_refl _))
    have cf : cellAt h31 ((⟨h22.size, 0, none⟩ : Addr).add 4) = some (.bool o.del) := by rw [add_off]; exact row_cell r31 rfl
    have fin : ∀ (c : Chg) (hx : Mem), c.Ok → c.key = o.key → Ext h22.size h22 hx → hx[h22.size]? = some (.cells (chcells c).toArray ty_api_Change (0, 0)) → _ := fun c hx okc hkc xx rc =>
      fits_push (h := hx) (kc := h22.size) (F := fun h' => (fun (n : Int) h' => ∃ (t : Sl) (cs : List Chg), n = (cs.length : Int) ∧ cs.length ≤ (pLast O).length ∧ Ext h14.size h14 h' ∧ RecAt h' h14.size seq t ∧ OwnC h' h14.size t cs ∧ FitTo (pLast O) cs) (IntKind.i64.wrap ((cs.length : Int) + 1)) h' ∧ (fun (n : Int) (_ : Mem) => (pLast O).length - n.toNat) (IntKind.i64.wrap ((cs.length : Int) + 1)) h' < (fun (n : Int) (_ : Mem) => (pLast O).length - n.toNat) (cs.length : Int) h22) (Nat.le_refl h14.size)
        ((xx.block h14.size k22).trans r22) rc (oc22.ext ECh.stab xx) (by omega) fun t' h' r' o' x' => by
          rw [wrap_succ (by omega)]
          refine ⟨⟨t', cs ++ [c], by simp, by simp; omega, (x22.trans (xx.less (by omega))).trans x', r', o', ft.snoc okc ho hkc⟩, ?_⟩
          show (pLast O).length - ((cs.length + 1 : Nat) : Int).toNat < (pLast O).length - ((cs.length : Nat) : Int).toNat
          rw [Int.toNat_natCast, Int.toNat_natCast]
          omega
    refine Ld.flag cf (Br.mk (fun e2 => ix _ ?_) fun e2 => ?_)
    · have e2 : o.del = false := by simpa using e2
      have hv1 := x31.cellAt (cellAt_lt hv0) hv0
      refine Ld.bytes hv1 ?_
      rw [hb.len]
      refine St.ref (x := 18446744073709551615) (y := 65536) (z := o.val.length) r31 fun h35 u35 r35 => ?_
      have x35 : Ext h22.size h22 h35 := x31.trans (u35.ext (Nat.le_refl _))
      have ok1 : Chg.Ok ⟨o.key, 18446744073709551615, 65536, o.val.length, o.del⟩ := ⟨hkey, fun e => (by rw [e2] at e; cases e), fun _ => (show (1 : Nat) ≤ 18446744073709551615 ∧ (18446744073709551615 : Nat) ≤ 18446744073709551615 ∧ (65536 : Nat) ≤ 65536 ∧ o.val.length ≤ 4096 from ⟨by decide, by decide, by decide, hval⟩)⟩
      refine Br.mk (fun e3 => ?_) fun e3 => fin _ h35 ok1 rfl x35 r35
      simp only [decide_eq_true_eq] at e3
      rw [rf.len] at e3
      obtain ⟨r, hr⟩ : ∃ r, R[cs.length]? = some r := ⟨_, List.getElem?_eq_getElem (by omega)⟩
      have x035 := (x010.after (x14.after x22)).after x35
      obtain ⟨ar, har, hcr⟩ := (rf.ext x035).at_ _ r hr
      have ixr : ∀ K, K ar → Idx sR.a sR.len (cs.length : Int) K := fun K k => Idx.mk har (by rw [rf.len]; omega) k
      refine ixr _ ?_
      refine Ld.ref hcr (ct_MayRef fun h41 x41 => Br.mk (fun e4 => ixr _ ?_) fun e4 => fin _ h41 ok1 rfl (x35.after x41) ((x41.block h22.size (by have := x35.size; have := u35.size; have := u31.size; omega)).trans r35))
      refine Ld.ref (hcr.ext x41) ?_
      obtain ⟨x, y, z⟩ := r
      simp only [pRef, Bool.and_eq_true, decide_eq_true_eq] at e4
      have htop := rf.top _ (List.mem_of_getElem? hr)
      obtain ⟨x', rfl⟩ := Int.eq_ofNat_of_zero_le (a := x) (by omega)
      obtain ⟨y', rfl⟩ := Int.eq_ofNat_of_zero_le (a := y) (by omega)
      obtain ⟨z', rfl⟩ := Int.eq_ofNat_of_zero_le (a := z) (by omega)
      refine St.ref (x := x') (y := y') (z := z') ((x41.block h22.size (by have := x35.size; have := u35.size; have := u31.size; omega)).trans r35) fun h46 u46 r46 => ?_
      exact fin _ h46 ⟨hkey, fun e => (by rw [e2] at e; cases e), fun _ => (show 1 ≤ x' ∧ x' ≤ 18446744073709551615 ∧ y' ≤ 65536 ∧ z' ≤ 4096 by have htop : (x' : Int) ≤ 18446744073709551615 := htop; omega)⟩ rfl ((x35.after x41).trans (u46.ext (Nat.le_refl _))) r46
    · have e2 : o.del = true := by simpa using e2
      exact fin _ h31 ⟨hkey, fun _ => ⟨rfl, rfl, rfl⟩, fun e => (by rw [e2] at e; cases e)⟩ rfl x31 r31
  · simp only [decide_eq_false_iff_not] at e1
    rw [l13] at e1
    have ok : ∀ c ∈ cs, c.Ok := fun c hc => by
      obtain ⟨j, hj⟩ := List.getElem?_of_mem hc
      exact (ft j c hj).1
    have x022 := x010.after (x14.after x22)
    refine Ld.rec (s := t) (Cells.whole (cs := rcells 1 seq t 0 0 0 0) r22) ?_
    refine ct_Write_batch oc22 ok (ft.rises (pLast_is O).rise) (by omega) (by omega) (by omega) hseq fun s98 h100 x100 o100 => Br.t rfl ?_
    have hl := o100.len
    have hsum := chB_sum ok
    have v1 := varB_le hseq
    have v2 := varB_le (n := cs.length) (by omega)
    have hlen : (recB seq cs).length = 1 + (varB seq).length + (varB cs.length).length + (cs.flatMap chB).length := by
      unfold recB
      simp only [List.length_append, List.length_cons, List.length_nil, List.flatMap_cons, List.flatMap_nil]
      omega
    refine Br.t (by rw [hl, decide_eq_true_eq]; omega) (ct_Var hseq fun s101 h102 x102 o102 => ?_)
    rw [hl, o102.len, i64_eq (by omega) (by omega), decide_eq_true (by omega)]
    exact q _ (x022.after (x100.after x102))
end
end Go.Dn.W

set_option linter.unusedVariables false
namespace Go.Dn.W
open Go Go.Dn Go.Proofs

/-! ### what is handed in -/
structure ChsIn (h : Mem) (s : Sl) (l : List Cg) : Prop where
  at_ : ChsAt h s l
  nil : s.a = none → s.cap = 0
  size : l.length * 48 ≤ 140737488351232
  key : ∀ c ∈ l, c.key.size ≤ 140737488351232
  ser : ∀ c ∈ l, c.ser ≤ 18446744073709551615
def RecIn (h : Mem) (s : Sl) (r : Rc) : Prop := ∃ L, ChsIn h s L ∧ r.seq ≤ 18446744073709551615 ∧ r.ms ≤ 18446744073709551615
theorem bytesOf_chg : PG.bytesOf ty_api_Change = 48 := by kernel_rfl
theorem cellsOf_chg : PG.cellsOf ty_api_Change = 5 := by kernel_rfl
theorem cellsOf_chs : PG.cellsOf ty_sl_api_Change = 1 := by kernel_rfl
theorem cellsOf_move : PG.cellsOf ty_api_Move = 4 := by kernel_rfl
theorem cellsOf_rec : PG.cellsOf ty_api_Record = 7 := by kernel_rfl
theorem fields_chg : fieldsOf ty_api_Change = [(ty_string, 0), (ty_api_Ref, 1), (ty_bool, 4)] := by kernel_rfl
theorem fields_move : fieldsOf ty_api_Move = [(ty_uint64, 0), (ty_int, 1), (ty_int, 2), (ty_int, 3)] := by kernel_rfl
theorem fields_rec : fieldsOf ty_api_Record = [(ty_int, 0), (ty_uint64, 1), (ty_sl_api_Change, 2), (ty_api_Move, 3)] := by kernel_rfl
section
variable {H : Type} {enc : TypeId × Value → H} {w : World} {R : Nat}
theorem arg_chg {cs : List Value} (a : Arg enc PG w ty_api_Change cs R) : ∃ c : Cg, cs = cgcells c ∧ c.key.size ≤ R ∧ c.ser ≤ 18446744073709551615 := by
  obtain ⟨fs, hu, hf⟩ := fields_spec fields_chg (by simp)
  obtain ⟨hl, hr⟩ := a.struct hu
  obtain ⟨f0, hf0, ht0, ho0⟩ := hf 0 _ _ rfl
  obtain ⟨f1, hf1, ht1, ho1⟩ := hf 1 _ _ rfl
  obtain ⟨f2, hf2, ht2, ho2⟩ := hf 2 _ _ rfl
  have a0 := hr 0 f0 hf0
  have a1 := hr 1 f1 hf1
  have a2 := hr 2 f2 hf2
  rw [ht0, ho0, cellsOf_str] at a0
  rw [ht1, ho1, cellsOf_ref] at a1
  rw [ht2, ho2, cellsOf_bool] at a2
  rw [cellsOf_chg] at hl
  obtain ⟨k, hk, hks⟩ := a0.str und_str
  obtain ⟨r, hr', hr1⟩ := arg_ref a1
  obtain ⟨d, hd⟩ := a2.bool und_bool
  refine ⟨⟨k, r.1, r.2.1, r.2.2, d⟩, ?_, hks, hr1⟩
  match cs, hl with
  | [c0, c1, c2, c3, c4], _ => simp [rfcells] at hk hr' hd; rw [hk, hr'.1, hr'.2.1, hr'.2.2, hd]; rfl
theorem arg_chs {cs : List Value} (a : Arg enc PG w ty_sl_api_Change cs R) (hR : R ≤ 140737488351232) : ∃ (s : Sl) (l : List Cg), cs = [sval s] ∧ ChsIn w.heap s l := by
  obtain ⟨s, rfl, hn, hl, hb, _, he⟩ := a.slice und_changes
  rw [bytesOf_chg] at hb
  rw [cellsOf_chg] at he
  obtain ⟨l, hll, hr⟩ := list_of (n := s.len) (R := fun i (c : Cg) => ∃ ad, s.a = some ad ∧ Cells w.heap (ad.add (i * 5)) (cgcells c) ∧ c.key.size ≤ R ∧ c.ser ≤ 18446744073709551615) fun i hi => by
    obtain ⟨p, ecs, hp, hc, _, ha⟩ := he i (by omega)
    obtain ⟨r, rfl, h1, h2⟩ := arg_chg ha
    exact ⟨r, p, hp, hc, h1, h2⟩
  have mem : ∀ c ∈ l, c.key.size ≤ R ∧ c.ser ≤ 18446744073709551615 := fun c hc => by
    obtain ⟨i, hi⟩ := List.getElem?_of_mem hc
    obtain ⟨_, _, _, h1, h2⟩ := hr i c hi
    exact ⟨h1, h2⟩
  exact ⟨s, l, rfl, ⟨hll.symm, fun i r hi => let ⟨ad, h1, h2, _⟩ := hr i r hi; ⟨ad, h1, h2⟩⟩, fun h => (hn h).2, by rw [hll]; omega, fun c hc => Nat.le_trans (mem c hc).1 hR, fun c hc => (mem c hc).2⟩
theorem arg_move {cs : List Value} (a : Arg enc PG w ty_api_Move cs R) : ∃ x y z u : Int, cs = [.int .u64 x, .int .i64 y, .int .i64 z, .int .i64 u] ∧ x ≤ 18446744073709551615 := by
  obtain ⟨fs, hu, hf⟩ := fields_spec fields_move (by simp)
  obtain ⟨hl, hr⟩ := a.struct hu
  obtain ⟨f0, hf0, ht0, ho0⟩ := hf 0 _ _ rfl
  obtain ⟨f1, hf1, ht1, ho1⟩ := hf 1 _ _ rfl
  obtain ⟨f2, hf2, ht2, ho2⟩ := hf 2 _ _ rfl
  obtain ⟨f3, hf3, ht3, ho3⟩ := hf 3 _ _ rfl
  have a0 := hr 0 f0 hf0
  have a1 := hr 1 f1 hf1
  have a2 := hr 2 f2 hf2
  have a3 := hr 3 f3 hf3
  rw [ht0, ho0, cellsOf_u] at a0
  rw [ht1, ho1, cellsOf_i] at a1
  rw [ht2, ho2, cellsOf_i] at a2
  rw [ht3, ho3, cellsOf_i] at a3
  rw [cellsOf_move] at hl
  obtain ⟨x, hx, hx1⟩ := a0.int und_u
  obtain ⟨y, hy, _⟩ := a1.int und_i
  obtain ⟨z, hz, _⟩ := a2.int und_i
  obtain ⟨u, hu', _⟩ := a3.int und_i
  have hm : IntKind.u64.max = 18446744073709551615 := by decide
  rw [hm] at hx1
  refine ⟨x, y, z, u, ?_, hx1.2⟩
  match cs, hl with
  | [c0, c1, c2, c3], _ => simp at hx hy hz hu'; rw [hx, hy, hz, hu']
theorem in_record {v : Value} {base : Nat} (ok : Value.okWide PG w .any base ty_api_Record v) (a : Arg enc PG w ty_api_Record v.cells.toList R) (hR : R ≤ 140737488351232 := by decide) :
    ∃ (s : Sl) (r : Rc), v = .agg #[.int .i64 r.kind, .int .u64 r.seq, sval s, .int .u64 r.ms, .int .i64 r.mf, .int .i64 r.mt, .int .i64 r.mn] ∧ RecIn w.heap s r := by
  obtain ⟨fs, hu, hf⟩ := fields_spec fields_rec (by simp)
  unfold Value.okWide at ok
  rw [hu] at ok
  obtain ⟨cs, rfl, _⟩ := ok
  have a : Arg enc PG w ty_api_Record cs.toList R := a
  obtain ⟨hl, hr⟩ := a.struct hu
  obtain ⟨f0, hf0, ht0, ho0⟩ := hf 0 _ _ rfl
  obtain ⟨f1, hf1, ht1, ho1⟩ := hf 1 _ _ rfl
  obtain ⟨f2, hf2, ht2, ho2⟩ := hf 2 _ _ rfl
  obtain ⟨f3, hf3, ht3, ho3⟩ := hf 3 _ _ rfl
  have a0 := hr 0 f0 hf0
  have a1 := hr 1 f1 hf1
  have a2 := hr 2 f2 hf2
  have a3 := hr 3 f3 hf3
  rw [ht0, ho0, cellsOf_i] at a0
  rw [ht1, ho1, cellsOf_u] at a1
  rw [ht2, ho2, cellsOf_chs] at a2
  rw [ht3, ho3, cellsOf_move] at a3
  rw [cellsOf_rec] at hl
  obtain ⟨k, hk, _⟩ := a0.int und_i
  obtain ⟨q, hq, hq1⟩ := a1.int und_u
  obtain ⟨s, L, hs, hL⟩ := arg_chs a2 hR
  obtain ⟨x, y, z, u, hm, hx⟩ := arg_move a3
  have hmx : IntKind.u64.max = 18446744073709551615 := by decide
  rw [hmx] at hq1
  refine ⟨s, ⟨k, q, x, y, z, u⟩, ?_, L, hL, hq1.2, hx⟩
  have : cs = #[.int .i64 k, .int .u64 q, sval s, .int .u64 x, .int .i64 y, .int .i64 z, .int .i64 u] := by
    apply Array.ext'
    generalize cs.toList = c at *
    match c, hl with
    | [c0, c1, c2, c3, c4, c5, c6], _ => simp at hk hq hs hm; rw [hk, hq, hs, hm.1, hm.2.1, hm.2.2.1, hm.2.2.2]
  rw [this]
end

open Classical in
noncomputable def wb (r : Rc) (l : List Cg) : List UInt8 := if RecOk r l then recBytes r l else []
open Classical in
noncomputable def wn (r : Rc) (l : List Cg) : Int := if RecOk r l then 0 else 11
open Classical in
noncomputable def wm (r : Rc) (l : List Cg) : Bool := if RecOk r l then true else false

section
variable {h : Mem}
theorem ct_Write2 {B : Nat} {s : Sl} {r : Rc} {l : List Cg} {Q : Sl → Int → Mem → Prop} (o : OwnL ty_api_Change 5 ECg h B B s l) (hl : l.length ≤ 140737488355328) (hs : r.seq ≤ 18446744073709551615) (hm : r.ms ≤ 18446744073709551615) (ht : ∀ c ∈ l, c.ser ≤ 18446744073709551615)
    (q : ∀ s' h', Ext h.size h h' → BytesSl h' s' (wb r l) → Q s' (wn r l) h') :
    CallF PG fn_batch_Write [.agg #[.int .i64 r.kind, .int .u64 r.seq, sval s, .int .u64 r.ms, .int .i64 r.mf, .int .i64 r.mt, .int .i64 r.mn]] (.tup [.leaf .sl, .leaf (.int .i64)]) h Q := by
  unfold wb wn at q
  refine ct_Write' (B' := 0) o hl hs hm ht (fun ok s' h' x' o' => ?_) fun nok h' x' => ?_
  · have := q s' h' x'; rw [if_pos ok, if_pos ok] at this; exact this o'.bytes
  · have := q ⟨none, 0, 0⟩ h' x'; rw [if_neg nok, if_neg nok] at this; exact this (BytesSl.isNil h')
theorem ct_ref_Write2 {s : Sl} {r : Rc} {l : List Cg} {Q : Sl → Int → Mem → Prop} (a : ChsAt h s l) (hl : l.length ≤ 140737488355328) (hkk : ∀ c ∈ l, c.key.size ≤ 140737488351232) (hs : r.seq ≤ 18446744073709551615) (hm : r.ms ≤ 18446744073709551615) (ht : ∀ c ∈ l, c.ser ≤ 18446744073709551615)
    (q : ∀ s' h', Ext h.size h h' → BytesSl h' s' (wb r l) → Q s' (wn r l) h') :
    CallF PG fn_dunnageref10_Write [.agg #[.int .i64 r.kind, .int .u64 r.seq, sval s, .int .u64 r.ms, .int .i64 r.mf, .int .i64 r.mt, .int .i64 r.mn]] (.tup [.leaf .sl, .leaf (.int .i64)]) h Q := by
  unfold wb wn at q
  refine ct_ref10_Write a hl hkk hs hm ht (fun ok s' h' x' o' => ?_) fun nok h' x' => ?_
  · have := q s' h' x'; rw [if_pos ok, if_pos ok] at this; exact this o'.bytes
  · have := q ⟨none, 0, 0⟩ h' x'; rw [if_neg nok, if_neg nok] at this; exact this (BytesSl.isNil h')

theorem law_BatchWrites {r : Rc} {s : Sl} {Q : Bool → Mem → Prop} (hr : RecIn h s r) (q : ∀ h', Ext h.size h h' → Q true h') : wp_dunnagelaw10_BatchWrites r.kind r.seq s r.ms r.mf r.mt r.mn h Q := by
  obtain ⟨L, ci, hs, hm⟩ := hr
  have hsz := ci.size
  obtain ⟨tr, htr⟩ := und_rec
  refine New.go fun h2 _ x2 z2 r2 => ?_
  have r2 : h2[h.size]? = some (.cells (rcs r s).toArray ty_api_Record (0, 0)) := r2
  refine Ld.rec (s := s) (Cells.whole (cs := rcs r s) r2) (New.go fun h11 _ x11 z11 r11 => ?_)
  refine St.row htr (vs := rcs r s) rfl sz_rec (by intro u hu; simp only [rcs, rcells, List.mem_cons, List.not_mem_nil, or_false] at hu; rcases hu with rfl | rfl | rfl | rfl | rfl | rfl | rfl <;> rfl) r11 (show 7 ≤ 7 by decide) fun h12 u12 r12 => ?_
  have r12 : h12[h2.size]? = some (.cells (rcs r s).toArray ty_api_Record (0, 0)) := r12
  have z12 := u12.size
  have x212 : Ext h2.size h2 h12 := x11.trans (u12.ext (Nat.le_refl _))
  have k12 := (x212.block h.size (by omega)).trans r2
  have x012 := x2.after x212
  refine Ld.chs (v := s) (by rw [add_off]; exact row_cell k12 rfl) ?_
  refine ct_Own (f := ⟨⟨#[55, 49]⟩, 0, 0, 0, false⟩) (ci.at_.ext x012) ci.nil (by omega) fun s14 h15 x15 o15 l14 c14 => ?_
  have z15 := x15.size
  have k15 := (x15.block h.size (by omega)).trans k12
  have r15 := (x15.block h2.size (by omega)).trans r12
  rw [add_off]
  refine St.row und_changes (vs := [sval s14]) rfl (by kernel_rfl) (by intro u hu; simp only [List.mem_cons, List.not_mem_nil, or_false] at hu; subst hu; rfl) r15 (show 3 ≤ 7 by decide) fun h16 u16 r16 => ?_
  have r16 : h16[h2.size]? = some (.cells (rcs r s14).toArray ty_api_Record (0, 0)) := r16
  have z16 := u16.size
  have k16 := (u16.block h.size (by omega)).trans k15
  have x016 : Ext h.size h h16 := (x012.after x15).trans (u16.ext (by omega))
  have o16 : OwnL ty_api_Change 5 ECg h16 h12.size h12.size ⟨s14.a, L.length + 3, s14.cap⟩ (L ++ fill3 ⟨⟨#[55, 49]⟩, 0, 0, 0, false⟩) := by
    obtain ⟨css, ow, hh⟩ := o15
    exact ⟨css, Owns.kept ow (fun a ha => u16.block _ (by have := (Owns.blk ow ha).1; omega)), ⟨hh.len, hh.width, hh.one, hh.is⟩⟩
  have p16 : OwnL ty_api_Change 5 ECg h16 h12.size h12.size s14 L := OwnL.prefixC o16 l14
  refine Ld.rec (s := s14) (Cells.whole (cs := rcs r s14) r16) (ct_Write2 p16 (by omega) hs hm ci.ser fun s24 h26 x26 b26 => ?_)
  have k26 := (x26.block h.size (by omega)).trans k16
  have a16 := ci.at_.ext x016
  refine Ld.rec (s := s) (Cells.whole (cs := rcs r s) k26) (ct_ref_Write2 (a16.ext x26) (by omega) ci.key hs hm ci.ser fun s34 h36 x36 b36 => ct_awake10 fun h38 x38 => Br.t rfl ?_)
  have x1638 := x26.after (x36.after x38)
  have k38 := (x1638.block h.size (by omega)).trans k16
  have r38 := (x1638.block h2.size (by omega)).trans r16
  refine Ld.rec (s := s14) (Cells.whole (cs := rcs r s14) r38) (Ld.rec (s := s) (Cells.whole (cs := rcs r s) k38) ?_)
  have mays : ∀ {Q : Bool → Mem → Prop}, (∀ h', Ext h38.size h38 h' → Q (wm r L) h') → CallF PG fn_batch_May [.agg #[.int .i64 r.kind, .int .u64 r.seq, sval s14, .int .u64 r.ms, .int .i64 r.mf, .int .i64 r.mt, .int .i64 r.mn]] (.one (.leaf .bool)) h38 Q := fun q => by
    unfold wm at q
    exact ct_May' ((p16.ext ECg.stab x1638).chs) (by omega) (fun ok h' x' => by have := q h' x'; rwa [if_pos ok] at this) fun nok h' x' => by have := q h' x'; rwa [if_neg nok] at this
  refine mays fun h54 x54 => ?_
  have x1654 := x1638.after x54
  have k54 := (x54.block h.size (by have := x1638.size; omega)).trans k38
  refine ⟨Ld.rec (s := s) (Cells.whole (cs := rcs r s) k54) rfl, ?_⟩
  have rmay : ∀ {Q : Bool → Mem → Prop}, (∀ h', Ext h54.size h54 h' → Q (wm r L) h') → CallF PG fn_dunnageref10_May [.agg #[.int .i64 r.kind, .int .u64 r.seq, sval s, .int .u64 r.ms, .int .i64 r.mf, .int .i64 r.mt, .int .i64 r.mn]] (.one (.leaf .bool)) h54 Q := fun q => by
    unfold wm at q
    exact ct_ref10_May (a16.ext x1654) (by omega) ci.key (fun ok h' x' => by have := q h' x'; rwa [if_pos ok] at this) fun nok h' x' => by have := q h' x'; rwa [if_neg nok] at this
  refine rmay fun h63 x63 => Br.t (by simp) ?_
  have x1663 := x1654.after x63
  have x3663 := x38.after (x54.after x63)
  refine ct_Bytes (b26.ext (x36.after x3663)) (b36.ext x3663) (Br.t (by simp) (Br.t (by simp) ?_))
  have k63 := (x1663.block h.size (by omega)).trans k16
  have r63 := (x1663.block h2.size (by omega)).trans r16
  refine Ld.chs (v := s14) (row_cell r63 rfl) (Ld.chs (v := s) (by rw [add_off]; exact row_cell k63 rfl) ?_)
  refine ct_Kept (f := ⟨⟨#[55, 49]⟩, 0, 0, 0, false⟩) ((p16.ext ECg.stab x1663).chs) (a16.ext x1663) ((o16.ext ECg.stab x1663).chs) c14 (by omega) fun h69 x69 => q _ (x016.after (x1663.after x69))
end
end Go.Dn.W
