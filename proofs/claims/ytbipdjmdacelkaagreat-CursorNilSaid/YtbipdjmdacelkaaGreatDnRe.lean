/- Arenas that grew: what stood stands. Splitting; the root. -/
import Derived.Test.YtbipdjmdacelkaaGreatDnPt
set_option linter.unusedVariables false
namespace Go.Dn.W
open Go Go.Dn Go.Proofs

def Obj'.size (o : Obj') : Nat := 1 + o.ptrs.length + o.data.length
inductive Reach : Ar → Ar → Prop
  | refl (A : Ar) : Reach A A
  | add {A A' : Ar} (o : Obj') : Reach A A' → o.Ok A' → A'.w.length + o.size ≤ A'.most → Reach A (A'.add o)
theorem Reach.trans {A B C : Ar} (x : Reach A B) (y : Reach B C) : Reach A C := by
  induction y with
  | refl => exact x
  | add o _ h1 h2 ih => exact .add o ih h1 h2
theorem add_len (A : Ar) (o : Obj') : (A.add o).w.length = A.w.length + o.size := by simp [Ar.add, Obj'.size]; omega
theorem Reach.pre {A A' : Ar} (x : Reach A A') : ∃ l, A'.w = A.w ++ l := by
  induction x with
  | refl => exact ⟨[], by simp⟩
  | add o _ _ _ ih => obtain ⟨l, hl⟩ := ih; exact ⟨_, by simp only [Ar.add]; rw [hl, List.append_assoc]⟩
theorem Reach.len {A A' : Ar} (x : Reach A A') : A.w.length ≤ A'.w.length := by obtain ⟨l, hl⟩ := x.pre; rw [hl]; simp
theorem Reach.most {A A' : Ar} (x : Reach A A') : A'.most = A.most := by
  induction x with
  | refl => rfl
  | add o _ _ _ ih => exact ih
theorem Reach.roots {A A' : Ar} (x : Reach A A') : A'.roots = A.roots := by
  induction x with
  | refl => rfl
  | add o _ _ _ ih => exact ih
theorem Reach.objs {A A' : Ar} (x : Reach A A') {i : Nat} (h : A.objs i = true) : A'.objs i = true := by
  induction x with
  | refl => exact h
  | add o _ _ _ ih => simp [Ar.add, ih]
theorem IsObj.reach {A A' : Ar} {at' : Nat} {o : Obj'} (y : IsObj A at' o) (x : Reach A A') : IsObj A' at' o := by
  obtain ⟨l, hl⟩ := x.pre
  have hf := y.fits
  refine ⟨x.objs y.is, y.kind, y.ptrs, y.data, ?_⟩
  rw [hl, List.drop_append_of_le_length (by omega), List.drop_append_of_le_length (by omega)]
  rw [y.cut]
  simp
theorem IsObj.added {A : Ar} {o : Obj'} (ok : o.Ok A) : IsObj (A.add o) A.w.length o := by
  refine ⟨by simp [Ar.add], ok.kind, ok.ptrs, ok.data, ?_⟩
  simp only [Ar.add]
  rw [List.drop_left, ← List.drop_drop, List.drop_left, List.drop_eq_nil_of_le (by simp; omega), List.append_nil]
theorem IsObj.lt {A : Ar} {at' : Nat} {o : Obj'} (x : IsObj A at' o) : at' < A.w.length := (List.getElem?_eq_some_iff.1 x.head).1

def SplitIs (A : Ar) (es : List En) (kids : List Nat) (l r : Nat) (e : En) : Prop :=
  (r = 0 ∧ es.length ≤ 7 ∧ IsObj A l (ndObj es kids)) ∨
  (r ≠ 0 ∧ 7 < es.length ∧ es[es.length / 2]? = some e ∧ IsObj A l (ndObj (cutE es 0 (es.length / 2)) (cutK kids 0 (es.length / 2))) ∧ IsObj A r (ndObj (cutE es (es.length / 2 + 1) es.length) (cutK kids (es.length / 2 + 1) es.length)))
def hvals (l r : Nat) (e : En) : List Value := [.int .i64 (l : Int), .int .i64 (r : Int), .string e.1, .int .u64 (e.2.ser : Int), .int .i64 (e.2.pos : Int), .int .i64 (e.2.len : Int)]
def en0 : En := (ByteArray.mk #[], ⟨0, 0, 0⟩)
theorem und_hv : ∃ d, PG.underlying ty_btree_halves = some d := Option.isSome_iff_exists.1 (by kernel_rfl)
theorem agg_hv : isAggB PG ty_btree_halves = true := by kernel_rfl
theorem sz_hv : szOf PG ty_btree_halves = 6 := by kernel_rfl
section
variable {h : Mem} {ka : Nat} {A : Ar} {s1 s2 s3 : Sl} {es : List En} {kids : List Nat}
def hcells' (l r : Int) (k : ByteArray) (a b c : Int) : List Value := [.int .i64 l, .int .i64 r, .string k, .int .u64 a, .int .i64 b, .int .i64 c]
theorem Ld.hv {a : Addr} {l r : Int} {k : ByteArray} {x y z : Int} {K : Int → Int → ByteArray → Int → Int → Int → Prop} (hc : Cells h a (hcells' l r k x y z)) (hk : K l r k x y z) : Ld PG ty_btree_halves a (.one (.agg [.int .i64, .int .i64, .str, .int .u64, .int .i64, .int .i64])) h K := by
  obtain ⟨t, hd⟩ := und_hv
  exact Ld.agg hd agg_hv sz_hv rfl hc ⟨_, .int _ _, _, .int _ _, _, .str _, _, .int _ _, _, .int _ _, _, .int _ _, hk⟩
theorem one_hv {l r : Int} {k : ByteArray} {a b c : Int} : ∀ u ∈ hcells' l r k a b c, u.oneCell' = true := by
  intro u hu
  simp only [hcells', List.mem_cons, List.not_mem_nil, or_false] at hu
  rcases hu with rfl | rfl | rfl | rfl | rfl | rfl <;> rfl
theorem NdOk.cut {a b : Nat} (n : NdOk A es kids) : NdOk A (cutE es a b) (cutK kids a b) := by
  refine ⟨fun e he => n.ents e (List.mem_of_mem_drop (List.mem_of_mem_take he)), ?_, fun p hp => n.kidsOk p (List.mem_of_mem_drop (List.mem_of_mem_take hp)), ?_⟩
  · have := n.len; unfold cutE; rw [List.length_take, List.length_drop]; omega
  · have := n.klen; unfold cutK; rw [List.length_take, List.length_drop]; omega
theorem NdOk.reach {A' : Ar} (n : NdOk A es kids) (x : Reach A A') : NdOk A' es kids := ⟨n.ents, n.len, fun p hp => ⟨x.objs (n.kidsOk p hp).1, (n.kidsOk p hp).2⟩, n.klen⟩
theorem encs_le {es : List En} (h : ∀ e ∈ es, e.Ok) (hn : es.length ≤ 8) : (enc es).length ≤ 168 := by have := enc_len h; omega
theorem cut_size {a b : Nat} (n : NdOk A es kids) (hn : es.length ≤ 8) (hkid : kids = [] ∨ kids.length = es.length + 1) (hab : b - a ≤ 4) : 1 + (cutK kids a b).length + (enc (cutE es a b)).length ≤ 90 := by
  have h1 := enc_len (n.cut (a := a) (b := b)).ents
  have h2 : (cutE es a b).length ≤ 4 := by unfold cutE; rw [List.length_take]; omega
  have h3 : (cutK kids a b).length ≤ 5 := by unfold cutK; rw [List.length_take]; omega
  omega
theorem ct_split {kf : Nat} {Q : Int → Int → ByteArray → Int → Int → Int → Int → Mem → Prop} (f : FoAt h kf ka A) (n : NdE h ka s1 s2 s3 es kids) (ok : NdOk A es kids) (hn : es.length ≤ 8) (hkid : kids = [] ∨ kids.length = es.length + 1) (hw : 0 < A.w.length)
    (q1 : A.most < A.w.length + 180 → ∀ l r k a b c h' A', FoAt h' kf ka A' → Reach A A' → ArX ka h.size h h' → Q l r k a b c 3 h')
    (q2 : ∀ (l r : Nat) e h' A', FoAt h' kf ka A' → Reach A A' → A'.w.length ≤ A.w.length + 180 → ArX ka h.size h h' → SplitIs A' es kids l r e → A.w.length ≤ l → Q (l : Int) (r : Int) e.1 (e.2.ser : Int) (e.2.pos : Int) (e.2.len : Int) 0 h') :
    CallF PG fn_btree_Forest_split [.pointer (some ⟨kf, 0, none⟩), .agg #[sval s1, sval s2, sval s3]] (.tup [.agg [.int .i64, .int .i64, .str, .int .u64, .int .i64, .int .i64], .leaf (.int .i64)]) h Q := by
  refine call_btree_Forest_split (n_0 := s1) (n_1 := s2) (n_2 := s3) (New.go fun h2 _ x2 z2 r2 => New.go fun h4 _ x4 z4 r4 => ?_)
  have x4' : Ext h.size h h4 := x2.after x4
  have r14 := x4.row' r2
  have f4 := f.ext x4'
  have n4 := n.ext f.a x4'
  have l1 := n.k.len
  rw [List.length_map] at l1
  have ax4 : ArX ka h.size h h4 := f.a.arx x4'
  have hkf := row_lt f.r
  have s14 : Safe h4 ka h.size := safeT f4.a r14 (by decide) (by decide) (by decide)
  have s34 : Safe h4 ka h2.size := safeT f4.a r4 (by decide) (by decide) (by decide)
  have z4' := x4'.size
  refine Ld.strs (row_cell r14 rfl) (Br.mk (fun hle => ?_) fun hgt => ?_)
  · have hle : es.length ≤ 7 := by simp at hle; omega
    refine Ld.node (Cells.whole r14) (ct_keep f4 n4 ok (fun hb h11 f11 a11 => ?_) fun hb h11 f11 a11 => ?_)
    all_goals
      have r11 := (s34.keep (by omega) a11).trans r4
      have s11 := s34.arx (by omega) a11
      have hb' := encs_le ok.ents (by omega : es.length ≤ 8)
      have hk9 : kids.length ≤ 9 := by
        rcases hkid with h2 | h2
        · rw [h2]; exact Nat.zero_le _
        · omega
    · refine St.all und_hv rfl (vs := hcells' 0 0 (ByteArray.mk #[]) 0 0 0) sz_hv one_hv r11 rfl fun h12 u12 r12 => Ld.hv (Cells.whole r12) ?_
      obtain ⟨f12, a12⟩ := f11.upd s11 (m := h.size) (by omega) (by omega) u12
      exact q1 (by omega) _ _ _ _ _ _ h12 A f12 (.refl A) ((ax4.after a11).trans a12)
    · refine St.all und_hv rfl (vs := hcells' (A.w.length : Int) 0 (ByteArray.mk #[]) 0 0 0) sz_hv one_hv r11 rfl fun h12 u12 r12 => Ld.hv (Cells.whole r12) ?_
      obtain ⟨f12, a12⟩ := f11.upd s11 (m := h.size) (by omega) (by omega) u12
      refine q2 A.w.length 0 en0 h12 _ f12 (.add _ (.refl A) ok.obj hb) ?_ ((ax4.after a11).trans a12) (.inl ⟨rfl, hle, .added ok.obj⟩) (Nat.le_refl _)
      rw [add_len]
      show A.w.length + (1 + kids.length + (enc es).length) ≤ _
      omega
  · have hgt : es.length = 8 := by simp at hgt; omega
    have l1' : s1.len = 8 := by omega
    refine Ld.strs (row_cell r14 rfl) ?_
    have e4 : IntKind.i64.wrap ((s1.len : Int).tdiv 2) = ((4 : Nat) : Int) := by rw [l1']; rfl
    rw [e4]
    refine ct_part (a := 0) (b := 4) (by omega) (by omega) hkid (by omega) r14 n4 fun s20 s21 s22 h23 x23 n23 => ?_
    have f23 := f4.ext x23
    have ax23 : ArX ka h.size h h23 := f.a.arx (x4'.after x23)
    have okl := ok.cut (a := 0) (b := 4)
    have cl := cut_size ok hn hkid (a := 0) (b := 4) (by omega)
    have z23 := x23.size
    have s123 := Safe.ext f4.a s14 x23
    have s323 := Safe.ext f4.a s34 x23
    have r123 := x23.row' r14
    have r323 := x23.row' r4
    have n4' := n4.ext f4.a x23
    refine ct_keep f23 (n23.nde f4.a x23) okl (fun hb h26 f26 a26 => ?_) fun hb h26 f26 a26 => ?_
    · refine Br.t rfl ?_
      have r26 := (s323.keep (by omega) a26).trans r323
      refine St.all und_hv rfl (vs := hcells' 0 0 (ByteArray.mk #[]) 0 0 0) sz_hv one_hv r26 rfl fun h12 u12 r12 => Ld.hv (Cells.whole r12) ?_
      obtain ⟨f12, a12⟩ := f26.upd (s323.arx (by omega) a26) (m := h.size) (by omega) (by omega) u12
      exact q1 (by omega) _ _ _ _ _ _ h12 A f12 (.refl A) ((ax23.after a26).trans a12)
    · refine Br.f rfl ?_
      have rch : Reach A (A.add (ndObj (cutE es 0 4) (cutK kids 0 4))) := .add _ (.refl A) okl.obj hb
      generalize hA1 : A.add (ndObj (cutE es 0 4) (cutK kids 0 4)) = A1 at *
      have len1 : A1.w.length = A.w.length + (1 + (cutK kids 0 4).length + (enc (cutE es 0 4)).length) := by rw [← hA1, add_len]; rfl
      have is1 : IsObj A1 A.w.length (ndObj (cutE es 0 4) (cutK kids 0 4)) := by rw [← hA1]; exact .added okl.obj
      have z26 := a26.size
      have r126 := (s123.keep (by omega) a26).trans r123
      have r326 := (s323.keep (by omega) a26).trans r323
      have s126 := s123.arx (by omega) a26
      have s326 := s323.arx (by omega) a26
      have n26 := n4'.arx a26
      refine Ld.strs (row_cell r126 rfl) ?_
      rw [l1', show IntKind.i64.wrap (((4 : Nat) : Int) + 1) = ((5 : Nat) : Int) from rfl]
      refine ct_part (a := 5) (b := 8) (by omega) (by omega) hkid (by omega) r126 n26 fun s35 s36 s37 h38 x38 n38 => ?_
      have f38 := f26.ext x38
      have ax38 : ArX ka h.size h h38 := (ax23.after a26).after (f26.a.arx x38)
      have okr := (ok.cut (a := 5) (b := 8)).reach rch
      have cr := cut_size ok hn hkid (a := 5) (b := 8) (by omega)
      have z38 := x38.size
      have s138 := Safe.ext f26.a s126 x38
      have s338 := Safe.ext f26.a s326 x38
      have r138 := x38.row' r126
      have r338 := x38.row' r326
      have n38' := n26.ext f26.a x38
      obtain ⟨e, he⟩ : ∃ e, es[4]? = some e := ⟨_, List.getElem?_eq_getElem (by omega)⟩
      have tail : ∀ (l e' : Int) (A' : Ar) (h41 : Mem), FoAt h41 kf ka A' → ArX ka h38.size h38 h41 →
          (∀ h50, FoAt h50 kf ka A' → ArX ka h.size h h50 → Q (A.w.length : Int) l e.1 (e.2.ser : Int) (e.2.pos : Int) (e.2.len : Int) e' h50) → _ := fun l e' A' h41 f41 a41 k =>
        (show Ld PG ty_sl_string ⟨h.size, 0, none⟩ (.one (.leaf .sl)) h41 fun (s42 : Sl) => Idx s42.a s42.len ((4 : Nat) : Int) fun (p43 : Addr) => Ld PG ty_string (p43.add ((((4 : Nat) : Int)).toNat * 1)) (Kd.one (Cmp.leaf Leaf.str)) h41 fun (t44 : ByteArray) =>
          Ld PG ty_sl_api_Ref ((Addr.mk h.size 0 none).add 1) (Kd.one (Cmp.leaf Leaf.sl)) h41 fun (s45 : Sl) => Idx s45.a s45.len ((4 : Nat) : Int) fun (p46 : Addr) =>
            Ld PG ty_api_Ref (p46.add ((((4 : Nat) : Int)).toNat * 3)) (Kd.one (Cmp.agg [Leaf.int IntKind.u64, Leaf.int IntKind.i64, Leaf.int IntKind.i64])) h41 fun (n47 n48 n49 : Int) =>
              St PG ty_btree_halves (Addr.mk h2.size 0 none) (Value.agg #[Value.int IntKind.i64 (A.w.length : Int), Value.int IntKind.i64 l, Value.string t44, Value.int IntKind.u64 n47, Value.int IntKind.i64 n48, Value.int IntKind.i64 n49]) h41 fun (h50 : Mem) =>
                Ld PG ty_btree_halves (Addr.mk h2.size 0 none) (Kd.one (Cmp.agg [Leaf.int IntKind.i64, Leaf.int IntKind.i64, Leaf.str, Leaf.int IntKind.u64, Leaf.int IntKind.i64, Leaf.int IntKind.i64])) h50 fun (n51 n52 : Int) (t53 : ByteArray) (n54 n55 n56 : Int) => Q n51 n52 t53 n54 n55 n56 e' h50 from by
          have n41 := n38'.arx a41
          refine Ld.strs (row_cell ((s138.keep (by omega) a41).trans r138) rfl) (n41.k.get (i := 4) (v := ecell e) (by rw [List.getElem?_map, he]; rfl) fun ad ha hc => Ld.str hc ?_)
          refine Ld.refs (row_at ((s138.keep (by omega) a41).trans r138) rfl) (n41.r.get (i := 4) he fun ad ha hc => Ld.ref hc ?_)
          refine St.all und_hv rfl (vs := hcells' (A.w.length : Int) l e.1 (e.2.ser : Int) (e.2.pos : Int) (e.2.len : Int)) sz_hv one_hv ((s338.keep (by omega) a41).trans r338) rfl fun h12 u12 r12 => Ld.hv (Cells.whole r12) ?_
          obtain ⟨f12, a12⟩ := f41.upd (s338.arx (by omega) a41) (m := h.size) (by omega) (by omega) u12
          exact k h12 f12 ((ax38.after a41).trans a12))
      refine ct_keep f38 (n38.nde f26.a x38) okr (fun hb2 h41 f41 a41 => ?_) fun hb2 h41 f41 a41 => ?_
      · refine tail 0 3 A1 h41 f41 a41 fun h50 f50 a50 => ?_
        have hmo := rch.most
        exact q1 (by omega) _ _ _ _ _ _ h50 A1 f50 rch a50
      · refine tail _ 0 _ h41 f41 a41 fun h50 f50 a50 => ?_
        have rch2 : Reach A (A1.add (ndObj (cutE es 5 8) (cutK kids 5 8))) := .add _ rch okr.obj hb2
        refine q2 A.w.length A1.w.length e h50 _ f50 rch2 ?_ a50 (.inr ⟨by omega, by omega, by rw [hgt]; exact he, by rw [hgt]; exact is1.reach (.add _ (.refl A1) okr.obj hb2), by rw [hgt]; exact .added okr.obj⟩) (Nat.le_refl _)
        rw [add_len]
        show A1.w.length + (1 + (cutK kids 5 8).length + (enc (cutE es 5 8)).length) ≤ _
        omega
end
end Go.Dn.W
