/- Forests: nodes in memory; loading, keeping, parting. -/
import Derived.Test.YtbipdjmdacelkaaGreatDnFi
set_option linter.unusedVariables false
namespace Go.Dn.W
open Go Go.Dn Go.Proofs

theorem safeT {h : Mem} {ka j : Nat} {A : Ar} {c : Array Value} {e : TypeId} {fz : Nat × Nat} (a : ArAt h ka A) (hj : h[j]? = some (.cells c e fz)) (h1 : e ≠ ty_arena_Arena) (h2 : e ≠ ty_uint32) (h3 : e ≠ ty_int) : Safe h ka j := by
  obtain ⟨sw, sr, mp, n, a⟩ := a
  refine ⟨row_lt hj, fun hi => ?_⟩
  rcases a.inar hi with rfl | ⟨ad, ha, rfl⟩ | ⟨ad, ha, rfl⟩ | rfl
  · rw [a.r] at hj; cases hj; exact h1 rfl
  · obtain ⟨_, _, c', hc⟩ := Owns.blk a.w ha
    rw [hc] at hj; cases hj; exact h2 rfl
  · obtain ⟨_, _, c', hc⟩ := Owns.blk a.roots ha
    rw [hc] at hj; cases hj; exact h3 rfl
  · obtain ⟨es, cl, hm⟩ := a.set.obj
    rw [hm] at hj; cases hj
structure FoAt (h : Mem) (kf ka : Nat) (A : Ar) : Prop where
  r : h[kf]? = some (.cells #[.pointer (some ⟨ka, 0, none⟩)] ty_btree_Forest (0, 0))
  a : ArAt h ka A
theorem FoAt.safe {h : Mem} {kf ka : Nat} {A : Ar} (f : FoAt h kf ka A) : Safe h ka kf := safeT f.a f.r (by decide) (by decide) (by decide)
theorem FoAt.ext {h h' : Mem} {kf ka : Nat} {A : Ar} (f : FoAt h kf ka A) (x : Ext h.size h h') : FoAt h' kf ka A := ⟨x.row' f.r, f.a.ext x⟩
theorem FoAt.arx {h h' : Mem} {kf ka n : Nat} {A A' : Ar} (f : FoAt h kf ka A) (hn : kf < n) (x : ArX ka n h h') (a : ArAt h' ka A') : FoAt h' kf ka A' := ⟨(Safe.keep f.safe hn x).trans f.r, a⟩
theorem FoAt.upd {h h' : Mem} {kf ka j m : Nat} {A : Ar} (f : FoAt h kf ka A) (s : Safe h ka j) (hj : j ≠ kf) (hm : m ≤ j) (u : Upd j h h') : FoAt h' kf ka A ∧ ArX ka m h h' := ⟨⟨(u.block _ (fun e => hj e.symm)).trans f.r, (f.a.upd s hm u).1⟩, (f.a.upd s hm u).2⟩
/-- a node that can be read -/
structure NdE (h : Mem) (ka : Nat) (s1 s2 s3 : Sl) (es : List En) (kids : List Nat) : Prop where
  k : Els h s1 (es.map ecell)
  r : ElsR h s2 es
  p : Els h s3 (kids.map icell)
  f1 : ∀ a, s1.a = some a → Safe h ka a.block
  f2 : ∀ a, s2.a = some a → Safe h ka a.block
  f3 : ∀ a, s3.a = some a → Safe h ka a.block
/-- a node of its own -/
structure NdO (h : Mem) (B : Nat) (s1 s2 s3 : Sl) (es : List En) (kids : List Nat) : Prop where
  k : Owns h B ty_string 1 s1 (es.map ecell)
  r : Owns h B ty_api_Ref 3 s2 (rfvs es)
  p : Owns h B ty_int 1 s3 (kids.map icell)
theorem NdO.ext {h h' : Mem} {B : Nat} {s1 s2 s3 : Sl} {es : List En} {kids : List Nat} (n : NdO h B s1 s2 s3 es kids) (x : Ext h.size h h') : NdO h' B s1 s2 s3 es kids := ⟨n.k.ext x, n.r.ext x, n.p.ext x⟩
theorem NdO.base {h : Mem} {B B' : Nat} {s1 s2 s3 : Sl} {es : List En} {kids : List Nat} (n : NdO h B s1 s2 s3 es kids) (hB : B' ≤ B) : NdO h B' s1 s2 s3 es kids := ⟨n.k.base hB, n.r.base hB, n.p.base hB⟩
theorem NdO.updT {h h' : Mem} {B j : Nat} {s1 s2 s3 : Sl} {es : List En} {kids : List Nat} {c : Array Value} {e : TypeId} {fz : Nat × Nat} (n : NdO h B s1 s2 s3 es kids) (u : Upd j h h') (hj : h[j]? = some (.cells c e fz)) (h1 : e ≠ ty_string) (h2 : e ≠ ty_api_Ref) (h3 : e ≠ ty_int) : NdO h' B s1 s2 s3 es kids :=
  ⟨n.k.updT u hj h1, n.r.updT u hj h2, n.p.updT u hj h3⟩
theorem NdO.nde {h0 h : Mem} {ka : Nat} {A : Ar} {s1 s2 s3 : Sl} {es : List En} {kids : List Nat} (n : NdO h h0.size s1 s2 s3 es kids) (a : ArAt h0 ka A) (x : Ext h0.size h0 h) : NdE h ka s1 s2 s3 es kids :=
  ⟨Owns.els n.k, Owns.elsR n.r, Owns.els n.p, fun ad ha => a.safe x (n.k.blk ha).1 (n.k.blk ha).2.1, fun ad ha => a.safe x (n.r.blk ha).1 (n.r.blk ha).2.1, fun ad ha => a.safe x (n.p.blk ha).1 (n.p.blk ha).2.1⟩
section
variable {h : Mem} {ka : Nat} {A : Ar} {s1 s2 s3 : Sl} {es : List En} {kids : List Nat}
theorem NdE.ext {h' : Mem} (n : NdE h ka s1 s2 s3 es kids) (a : ArAt h ka A) (x : Ext h.size h h') : NdE h' ka s1 s2 s3 es kids :=
  ⟨n.k.ext x, n.r.ext x, n.p.ext x, fun ad ha => Safe.ext a (n.f1 ad ha) x, fun ad ha => Safe.ext a (n.f2 ad ha) x, fun ad ha => Safe.ext a (n.f3 ad ha) x⟩
theorem NdE.arx {h' : Mem} (n : NdE h ka s1 s2 s3 es kids) (x : ArX ka h.size h h') : NdE h' ka s1 s2 s3 es kids :=
  ⟨n.k.keep fun ad ha => (n.f1 ad ha).keep (n.f1 ad ha).1 x, n.r.keep fun ad ha => (n.f2 ad ha).keep (n.f2 ad ha).1 x, n.p.keep fun ad ha => (n.f3 ad ha).keep (n.f3 ad ha).1 x,
   fun ad ha => (n.f1 ad ha).arx (n.f1 ad ha).1 x, fun ad ha => (n.f2 ad ha).arx (n.f2 ad ha).1 x, fun ad ha => (n.f3 ad ha).arx (n.f3 ad ha).1 x⟩
/-- the object of a node -/
def ndObj (es : List En) (kids : List Nat) : Obj' := ⟨min kids.length 1, kids, enc es⟩
theorem one_nd {x y z : Sl} : ∀ u ∈ ndcells x y z, u.oneCell' = true := by
  intro u hu
  simp only [ndcells, List.mem_cons, List.not_mem_nil, or_false] at hu
  rcases hu with rfl | rfl | rfl <;> rfl
theorem one_obj {x : Int} {y z : Sl} : ∀ u ∈ objcells x y z, u.oneCell' = true := by
  intro u hu
  simp only [objcells, List.mem_cons, List.not_mem_nil, or_false] at hu
  rcases hu with rfl | rfl | rfl <;> rfl
theorem ct_load {kf at' : Nat} {Q : Sl → Sl → Sl → Mem → Prop} (f : FoAt h kf ka A) (x : IsObj A at' (ndObj es kids)) (ok : ∀ e ∈ es, e.Ok) (hn : es.length ≤ 1000)
    (q : ∀ s1 s2 s3 h', Ext h.size h h' → NdO h' h.size s1 s2 s3 es kids → Q s1 s2 s3 h') : CallF PG fn_btree_Forest_load [.pointer (some ⟨kf, 0, none⟩), .int .i64 (at' : Int)] (.one (.agg [.sl, .sl, .sl])) h Q := by
  refine call_btree_Forest_load (New.go fun h2 _ x2 z2 r2 => ?_)
  show Ld _ _ _ _ _ _
  have f2 := f.ext x2
  refine Ld.pa (row_cell f2.r rfl) (ct_At f2.a x fun sp sd h9 x9 op od => New.go fun h11 _ x11 z11 r11 => ?_)
  refine St.all und_obj rfl (vs := objcells ((ndObj es kids).kind : Int) sp sd) sz_obj one_obj r11 rfl fun h12 u12 r12 => ?_
  have x12 : Ext h2.size h2 h12 := x9.trans ((x11.trans (u12.ext (Nat.le_refl _))).less x9.size)
  have x12' : Ext h9.size h9 h12 := x11.trans (u12.ext (Nat.le_refl _))
  refine Ld.obj (Cells.whole r12) ?_
  have od12 : Owns h12 h2.size ty_uint32 1 sd ((enc es).map wcell) := (od.ext x11).updT u12 r11 (by decide)
  have op12 : Owns h12 h2.size ty_int 1 sp (kids.map icell) := (op.ext x11).updT u12 r11 (by decide)
  refine ct_read (Owns.els od12) ok hn fun sk sr sa h20 x20 ok20 or20 oa20 => New.go fun h22 _ x22 z22 r22 => ?_
  have z2' := x2.size
  have z12' := x12.size
  have z20' := x20.size
  have n20 : NdO h20 h.size sk sr sp es kids := ⟨ok20.base (by omega), or20.base (by omega), (op12.ext x20).base (by omega)⟩
  refine St.all und_node rfl (vs := ndcells sk sr sp) sz_node one_nd r22 rfl fun h23 u23 r23 => ?_
  have n23 := (n20.ext x22).updT u23 r22 (by decide) (by decide) (by decide)
  have x23 : Ext h.size h h23 := x2.after (x12.trans ((x20.after (x22.trans (u23.ext (Nat.le_refl _)))).less z12'))
  have r123 : h23[h.size]? = some (.cells (ndcells ⟨none, 0, 0⟩ ⟨none, 0, 0⟩ ⟨none, 0, 0⟩).toArray ty_btree_node (0, 0)) := ((x12.after (x20.after (x22.trans (u23.ext (Nat.le_refl _))))).block _ (by omega)).trans r2
  refine Ld.node (Cells.whole r23) (St.all und_node rfl (vs := ndcells sk sr sp) sz_node one_nd r123 rfl fun h27 u27 r27 => Ld.node (Cells.whole r27) ?_)
  exact q sk sr sp h27 (x23.trans (u27.ext (Nat.le_refl _))) (n23.updT u27 r123 (by decide) (by decide) (by decide))
structure NdOk (A : Ar) (es : List En) (kids : List Nat) : Prop where
  ents : ∀ e ∈ es, e.Ok
  len : es.length ≤ 1000
  kidsOk : ∀ p ∈ kids, A.objs p = true ∧ p ≤ 4294967295
  klen : kids.length ≤ 255
theorem NdOk.obj (n : NdOk A es kids) : (ndObj es kids).Ok A := by
  refine ⟨?_, n.klen, ?_, fun p hp => ⟨.inr (n.kidsOk p hp).1, (n.kidsOk p hp).2⟩, enc_le n.ents⟩
  · show min kids.length 1 < 16; omega
  · have := enc_len n.ents
    have h1 := n.len
    have h2 := n.klen
    show 1 + kids.length + (enc es).length < 1048576
    omega
theorem ct_keep {kf : Nat} {Q : Int → Int → Mem → Prop} (f : FoAt h kf ka A) (n : NdE h ka s1 s2 s3 es kids) (ok : NdOk A es kids)
    (q1 : A.most < A.w.length + (1 + kids.length + (enc es).length) → ∀ h', FoAt h' kf ka A → ArX ka h.size h h' → Q 0 3 h')
    (q2 : A.w.length + (1 + kids.length + (enc es).length) ≤ A.most → ∀ h', FoAt h' kf ka (A.add (ndObj es kids)) → ArX ka h.size h h' → Q (A.w.length : Int) 0 h') :
    CallF PG fn_btree_Forest_keep [.pointer (some ⟨kf, 0, none⟩), .agg #[sval s1, sval s2, sval s3]] (.tup [.leaf (.int .i64), .leaf (.int .i64)]) h Q := by
  refine call_btree_Forest_keep (n_0 := s1) (n_1 := s2) (n_2 := s3) (New.go fun h2 _ x2 z2 r2 => ?_)
  show Ld _ _ _ _ _ _
  have f2 := f.ext x2
  have n2 := n.ext f.a x2
  refine Ld.pa (row_cell f2.r rfl) (Ld.ints (row_at r2 rfl) (Ld.ints (row_at r2 rfl) ?_))
  refine ct_words (s1 := s1) (s2 := s2) (s3 := s3) r2 n2.k n2.r ok.ents ok.len fun s7 h8 x8 o8 => ?_
  have r8 := x8.row' r2
  have f8 := f2.ext x8
  have n8 := n2.ext f2.a x8
  refine ⟨Ld.ints (row_at r8 rfl) rfl, Ld.ints (row_at r8 rfl) rfl, Ld.pa (row_cell f8.r rfl) rfl, ?_⟩
  have lp := n8.p.len
  rw [List.length_map] at lp
  have ek : (if 1 < (s3.len : Int) then 1 else (s3.len : Int)) = (((ndObj es kids).kind : Nat) : Int) := by
    show _ = ((min kids.length 1 : Nat) : Int)
    split <;> omega
  rw [ek]
  have ax : ArX ka h.size h h8 := f.a.arx (x2.after x8)
  have z2' := x2.size
  have z8' := x8.size
  have hkf := row_lt f.r
  refine ct_Make (o := ndObj es kids) f8.a ok.obj n8.p (Owns.els o8) n8.f3 (fun ad ha => f2.a.safe x8 (o8.blk ha).1 (o8.blk ha).2.1) (fun hb h' a' x' => ?_) (fun hb h' a' x' => ?_)
  · exact q1 hb h' (f8.arx (by omega) x' a') (ax.after x')
  · exact q2 hb h' (f8.arx (by omega) x' a') (ax.after x')
end
end Go.Dn.W
