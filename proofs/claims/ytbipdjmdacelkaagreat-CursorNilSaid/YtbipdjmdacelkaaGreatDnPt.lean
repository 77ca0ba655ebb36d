/- Forests: a part of a node; splitting; the root. -/
import Derived.Test.YtbipdjmdacelkaaGreatDnFo
set_option linter.unusedVariables false
namespace Go.Dn.W
open Go Go.Dn Go.Proofs
section
variable {h : Mem} {ka : Nat} {A : Ar} {s1 s2 s3 : Sl} {es : List En} {kids : List Nat}
abbrev nd0 : List Value := ndcells ⟨none, 0, 0⟩ ⟨none, 0, 0⟩ ⟨none, 0, 0⟩
def cutE (es : List En) (a b : Nat) : List En := (es.drop a).take (b - a)
def cutK (kids : List Nat) (a b : Nat) : List Nat := (kids.drop a).take (b + 1 - a)
theorem part_end {h0 : Mem} {k k1 k14 a b : Nat} {s9 s12 : Sl} {Q : Sl → Sl → Sl → Mem → Prop} (x0 : Ext h0.size h0 h) (hk1 : h0.size ≤ k1) (hk14 : h0.size ≤ k14) (hne : k1 ≠ k14) (hab : a ≤ b) (hb : b ≤ es.length) (hkid : kids = [] ∨ kids.length = es.length + 1) (hn : es.length ≤ 1000) (r1 : h[k1]? = some (.cells nd0.toArray ty_btree_node (0, 0))) (r14 : h[k14]? = some (.cells nd0.toArray ty_btree_node (0, 0)))
    (rk : h[k]? = some (.cells (ndcells s1 s2 s3).toArray ty_btree_node (0, 0))) (hk : k < h0.size) (x3 : Els h s3 (kids.map icell)) (hs3 : ∀ ad, s3.a = some ad → ad.block < h0.size) (ok : Owns h h0.size ty_string 1 s9 ((cutE es a b).map ecell)) (or : Owns h h0.size ty_api_Ref 3 s12 (rfvs (cutE es a b)))
    (q : ∀ s1 s2 s3 h', Ext h0.size h0 h' → NdO h' h0.size s1 s2 s3 (cutE es a b) (cutK kids a b) → Q s1 s2 s3 h') :
    St PG ty_btree_node (Addr.mk k14 0 none) (Value.agg #[Value.slice s9.a s9.len s9.cap, Value.slice s12.a s12.len s12.cap, Value.slice none 0 0]) h fun (h16 : Mem) =>
      Deref (some ⟨k, 0, none⟩) fun (p17 : Addr) => Ld PG ty_sl_int (p17.add 2) (Kd.one (Cmp.leaf Leaf.sl)) h16 fun (s18 : Sl) =>
        Br (decide ((↑s18.len : Int) > 0))
          (Deref (some ⟨k, 0, none⟩) fun (p19 : Addr) => Ld PG ty_sl_int (p19.add 2) (Kd.one (Cmp.leaf Leaf.sl)) h16 fun (s20 : Sl) =>
            Cut 1 s20.a s20.len s20.cap (some (a : Int)) (some (IntKind.i64.wrap ((b : Int) + 1))) none fun (s21 : Sl) =>
              CallF PG fn_slices_Clone_int_int_ [Value.slice s21.a s21.len s21.cap] (Kd.one (Cmp.leaf Leaf.sl)) h16 fun (s22 : Sl) (h23 : Mem) =>
                St PG ty_sl_int ((Addr.mk k14 0 none).add 2) (Value.slice s22.a s22.len s22.cap) h23 fun (h24 : Mem) =>
                  Ld PG ty_btree_node (Addr.mk k14 0 none) (Kd.one (Cmp.agg [Leaf.sl, Leaf.sl, Leaf.sl])) h24 fun (s25 s26 s27 : Sl) =>
                    St PG ty_btree_node (Addr.mk k1 0 none) (Value.agg #[Value.slice s25.a s25.len s25.cap, Value.slice s26.a s26.len s26.cap, Value.slice s27.a s27.len s27.cap]) h24 fun (h28 : Mem) =>
                      Ld PG ty_btree_node (Addr.mk k1 0 none) (Kd.one (Cmp.agg [Leaf.sl, Leaf.sl, Leaf.sl])) h28 fun (s29 s30 s31 : Sl) => Q (Sl.mk s29.a s29.len s29.cap) (Sl.mk s30.a s30.len s30.cap) (Sl.mk s31.a s31.len s31.cap) h28)
          (Ld PG ty_btree_node (Addr.mk k14 0 none) (Kd.one (Cmp.agg [Leaf.sl, Leaf.sl, Leaf.sl])) h16 fun (s32 s33 s34 : Sl) =>
            St PG ty_btree_node (Addr.mk k1 0 none) (Value.agg #[Value.slice s32.a s32.len s32.cap, Value.slice s33.a s33.len s33.cap, Value.slice s34.a s34.len s34.cap]) h16 fun (h35 : Mem) =>
              Ld PG ty_btree_node (Addr.mk k1 0 none) (Kd.one (Cmp.agg [Leaf.sl, Leaf.sl, Leaf.sl])) h35 fun (s36 s37 s38 : Sl) => Q (Sl.mk s36.a s36.len s36.cap) (Sl.mk s37.a s37.len s37.cap) (Sl.mk s38.a s38.len s38.cap) h35) := by
  refine St.all und_node rfl (vs := ndcells s9 s12 ⟨none, 0, 0⟩) sz_node one_nd r14 rfl fun h16 u16 r16 => ?_
  have rk16 := u16.row rk (by omega)
  have r116 := u16.row r1 hne
  have x16 : Ext h0.size h0 h16 := x0.trans (u16.ext hk14)
  have x316 : Els h16 s3 (kids.map icell) := x3.keep fun ad ha => u16.block _ (by have := hs3 ad ha; omega)
  have ok16 := ok.updT u16 r14 (by decide)
  have or16 := or.updT u16 r14 (by decide)
  show Ld _ _ _ _ _ _
  have l3 := x3.len
  rw [List.length_map] at l3
  refine Ld.ints (row_at rk16 rfl) (Br.mk (fun h0' => ?_) fun h0' => ?_)
  · have hlen : kids.length = es.length + 1 := by
      rcases hkid with rfl | h2
      · simp at l3; simp [l3] at h0'
      · exact h2
    show Ld _ _ _ _ _ _
    refine Ld.ints (row_at rk16 rfl) ?_
    rw [wrap_succ (by omega), show b + 1 = a + (b + 1 - a) by omega]
    refine x316.part (a := a) (n := b + 1 - a) (by rw [List.length_map]; omega) fun s21 y21 => ?_
    rw [← List.map_drop, ← List.map_take] at y21
    refine ct_CloneI y21 (by rw [List.length_take, List.length_drop]; omega) fun s22 h23 x23 o23 => ?_
    have r1423 := x23.row' r16
    have z16 := x16.size
    refine St.at1 (o := 2) ⟨_, und_ints⟩ (by kernel_rfl) rfl rfl r1423 (by show 2 < 3; decide) fun h24 u24 r24 => ?_
    have r124 := u24.row (x23.row' r116) hne
    refine Ld.node (Cells.whole r24) (St.all und_node rfl (vs := ndcells s9 s12 s22) sz_node one_nd r124 rfl fun h28 u28 r28 => Ld.node (Cells.whole r28) ?_)
    refine q _ _ _ h28 (((x16.trans (x23.less z16)).trans (u24.ext hk14)).trans (u28.ext hk1)) ⟨((ok16.ext x23).updT u24 r1423 (by decide)).updT u28 r124 (by decide), ((or16.ext x23).updT u24 r1423 (by decide)).updT u28 r124 (by decide), ((o23.updT u24 r1423 (by decide)).updT u28 r124 (by decide)).base z16⟩
  · have hk0 : kids = [] := List.eq_nil_of_length_eq_zero (by simp at h0'; omega)
    subst hk0
    refine Ld.node (Cells.whole r16) (St.all und_node rfl (vs := ndcells s9 s12 ⟨none, 0, 0⟩) sz_node one_nd r116 rfl fun h35 u35 r35 => Ld.node (Cells.whole r35) ?_)
    refine q _ _ _ h35 (x16.trans (u35.ext hk1)) ⟨ok16.updT u35 r116 (by decide), or16.updT u35 r116 (by decide), ?_⟩
    simp only [cutK, List.drop_nil, List.take_nil]
    exact Owns.nil _ _ _ _
theorem ct_part {k a b : Nat} {Q : Sl → Sl → Sl → Mem → Prop} (hab : a ≤ b) (hb : b ≤ es.length) (hkid : kids = [] ∨ kids.length = es.length + 1) (hn : es.length ≤ 1000) (rk : h[k]? = some (.cells (ndcells s1 s2 s3).toArray ty_btree_node (0, 0))) (n : NdE h ka s1 s2 s3 es kids)
    (q : ∀ s1 s2 s3 h', Ext h.size h h' → NdO h' h.size s1 s2 s3 (cutE es a b) (cutK kids a b) → Q s1 s2 s3 h') : CallF PG fn_btree_node_part [.pointer (some ⟨k, 0, none⟩), .int .i64 (a : Int), .int .i64 (b : Int)] (.one (.agg [.sl, .sl, .sl])) h Q := by
  refine call_btree_node_part (New.go fun h2 _ x2 z2 r2 => ?_)
  have hk := row_lt rk
  have rk2 := x2.row' rk
  have e2 : ∀ {hh : Mem}, Ext h2.size h2 hh → Ext h.size h hh := fun x => x2.after x
  have hs3 : ∀ ad, s3.a = some ad → ad.block < h.size := fun ad ha => (n.f3 ad ha).1
  have z2' := x2.size
  have hcl : (cutE es a b).length ≤ 1048576 := by unfold cutE; rw [List.length_take, List.length_drop]; omega
  show Ld _ _ _ _ _ _
  refine Ld.strs (row_cell rk2 rfl) ?_
  rw [show b = a + (b - a) by omega]
  refine n.k.part (a := a) (n := b - a) (by rw [List.length_map]; omega) fun s5 y5 => ?_
  rw [← List.map_drop, ← List.map_take] at y5
  show Ld _ _ _ _ _ _
  refine Ld.refs (row_at rk2 rfl) (n.r.part (a := a) (n := b - a) (by omega) fun s8 y8 => ?_)
  rw [← show b = a + (b - a) by omega]
  refine ⟨ct_CloneS (y5.ext x2) hcl fun s9 h10 x10 o10 => ⟨Ld.refs (row_at (x10.row' rk2) rfl) rfl, ct_CloneR ((y8.ext x2).ext x10) hcl fun s12 h13 x13 o13 => New.go fun h15 _ x15 z15 r15 => ?_, New.go fun h40 _ x40 z40 r40 => ⟨Ld.refs (row_at (x40.row' (x10.row' rk2)) rfl) rfl, ct_CloneR (((y8.ext x2).ext x10).ext x40) hcl fun s42 h43 x43 o43 => ?_⟩⟩,
    New.go fun h68 _ x68 z68 r68 => ⟨Ld.refs (row_at (x68.row' rk2) rfl) rfl, Ld.strs (row_cell (x68.row' rk2) rfl) rfl, ct_CloneS ((y5.ext x2).ext x68) hcl fun s71 h72 x72 o72 => ⟨Ld.refs (row_at (x72.row' (x68.row' rk2)) rfl) rfl, ct_CloneR (((y8.ext x2).ext x68).ext x72) hcl fun s74 h75 x75 o75 => ?_⟩⟩⟩
  · have x := x10.after (x13.after x15)
    have z10 := x10.size
    have z13 := x13.size
    exact part_end (e2 x) (Nat.le_refl _) (by omega) (by omega) hab hb hkid hn (x.row' r2) r15 (x.row' rk2) hk (n.p.ext (e2 x)) hs3 (((o10.ext x13).ext x15).base z2') ((o13.ext x15).base (by omega)) q
  · have x := x10.after (x40.after x43)
    have z10 := x10.size
    exact part_end (e2 x) (Nat.le_refl _) (by omega) (by omega) hab hb hkid hn (x.row' r2) (x43.row' r40) (x.row' rk2) hk (n.p.ext (e2 x)) hs3 (((o10.ext x40).ext x43).base z2') (o43.base (by omega)) q
  · have x := x68.after (x72.after x75)
    have z72 := x72.size
    exact part_end (e2 x) (Nat.le_refl _) (by omega) (by omega) hab hb hkid hn (x.row' r2) ((x72.after x75).row' r68) (x.row' rk2) hk (n.p.ext (e2 x)) hs3 ((o72.ext x75).base (by omega)) (o75.base (by omega)) q
end
end Go.Dn.W
