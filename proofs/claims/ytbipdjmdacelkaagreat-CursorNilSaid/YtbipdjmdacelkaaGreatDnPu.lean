/- Forests: put. -/
import Derived.Test.YtbipdjmdacelkaaGreatDnPl
set_option linter.unusedVariables false
namespace Go.Dn.W
open Go Go.Dn Go.Proofs
section
variable {h : Mem} {ka : Nat} {A : Ar} {s1 s2 s3 : Sl} {es : List En} {kids : List Nat} {h0 : Mem} {kf k1 k3 k5 B : Nat} {r : Rf}
/-- the kept node, or two -/
theorem put_end {A0 : Ar} {lo d : Nat} {L : List En} {Q : Int → Int → ByteArray → Int → Int → Int → Int → Mem → Prop} (p : PL h0 h kf ka k1 k3 k5 B A r s1 s2 s3 es kids) (rc : Reach A0 A) (hw0 : 0 < A0.w.length) (hw : A.w.length ≤ A0.w.length + 180 * d) (n : NodeT A d es kids L) (ok : ∀ x ∈ L, x.Ok) (hlo : lo ≤ es.length) (h8 : es.length ≤ 8)
    (q1 : A0.most < A0.w.length + 180 * (d + 1) → ∀ l r k a b c h' A', FoAt h' kf ka A' → Reach A0 A' → ArX ka h0.size h0 h' → Q l r k a b c 3 h')
    (q2 : ∀ (l r : Nat) m h' A', FoAt h' kf ka A' → Reach A0 A' → A'.w.length ≤ A0.w.length + 180 * (d + 1) → ArX ka h0.size h0 h' → PutIs A' lo d l r m L → A0.w.length ≤ l → Q (l : Int) (r : Int) m.1 (m.2.ser : Int) (m.2.pos : Int) (m.2.len : Int) 0 h') :
    Ld PG ty_btree_node (Addr.mk k5 0 none) (Kd.one (Cmp.agg [Leaf.sl, Leaf.sl, Leaf.sl])) h fun (s16 s17 s18 : Sl) =>
      CallF PG fn_btree_Forest_split [Value.pointer (some ⟨kf, 0, none⟩), Value.agg #[Value.slice s16.a s16.len s16.cap, Value.slice s17.a s17.len s17.cap, Value.slice s18.a s18.len s18.cap]]
        (Kd.tup [Cmp.agg [Leaf.int IntKind.i64, Leaf.int IntKind.i64, Leaf.str, Leaf.int IntKind.u64, Leaf.int IntKind.i64, Leaf.int IntKind.i64], Cmp.leaf (Leaf.int IntKind.i64)]) h fun (n19 n20 : Int) (t21 : ByteArray) (n22 n23 n24 n25 : Int) (h26 : Mem) =>
        St PG ty_btree_halves (Addr.mk k3 0 none) (Value.agg #[Value.int IntKind.i64 n19, Value.int IntKind.i64 n20, Value.string t21, Value.int IntKind.u64 n22, Value.int IntKind.i64 n23, Value.int IntKind.i64 n24]) h26 fun (h27 : Mem) =>
          Ld PG ty_btree_halves (Addr.mk k3 0 none) (Kd.one (Cmp.agg [Leaf.int IntKind.i64, Leaf.int IntKind.i64, Leaf.str, Leaf.int IntKind.u64, Leaf.int IntKind.i64, Leaf.int IntKind.i64])) h27 fun (n28 n29 : Int) (t30 : ByteArray) (n31 n32 n33 : Int) => Q n28 n29 t30 n31 n32 n33 n25 h27 := by
  have ks := p.ks
  have hA : A.w.length ≤ 1048576 := by obtain ⟨_, _, _, _, a⟩ := p.f.a; have := a.most; omega
  have hl := rc.len
  have hmo := rc.most
  have tail : ∀ {l r : Int} {k : ByteArray} {a b c e' : Int} {h26 : Mem} {A' : Ar}, FoAt h26 kf ka A' → ArX ka h.size h h26 → (∀ h27, FoAt h27 kf ka A' → ArX ka h0.size h0 h27 → Q l r k a b c e' h27) →
      St PG ty_btree_halves (Addr.mk k3 0 none) (Value.agg #[Value.int IntKind.i64 l, Value.int IntKind.i64 r, Value.string k, Value.int IntKind.u64 a, Value.int IntKind.i64 b, Value.int IntKind.i64 c]) h26 fun (h27 : Mem) =>
          Ld PG ty_btree_halves (Addr.mk k3 0 none) (Kd.one (Cmp.agg [Leaf.int IntKind.i64, Leaf.int IntKind.i64, Leaf.str, Leaf.int IntKind.u64, Leaf.int IntKind.i64, Leaf.int IntKind.i64])) h27 fun (n28 n29 : Int) (t30 : ByteArray) (n31 n32 n33 : Int) => Q n28 n29 t30 n31 n32 n33 e' h27 := by
    intro l r k a b c e' h26 A' f' x' hq
    have r26 := (p.sf3.keep p.sf3.1 x').trans p.r3
    refine St.all und_hv rfl (vs := hcells' l r k a b c) sz_hv one_hv r26 rfl fun h27 u27 r27 => Ld.hv (Cells.whole r27) ?_
    obtain ⟨f27, a27⟩ := f'.upd (p.sf3.arx p.sf3.1 x') (m := h0.size) (by omega) (by omega) u27
    exact hq h27 f27 ((p.ax.trans (x'.less p.ax.size)).trans a27)
  refine Ld.node (Cells.whole p.r5) (ct_split p.f p.nde (n.ok ok h8 hA) h8 n.klen (by omega) (fun hb l r k a b c h' A' f' rc' x' => ?_) fun l r m h' A' f' rc' hw' x' sp hl' => ?_)
  · exact tail f' x' fun h27 f27 a27 => q1 (by omega) _ _ _ _ _ _ h27 A' f27 (rc.trans rc') a27
  · exact tail f' x' fun h27 f27 a27 => q2 l r m h27 A' f27 (rc.trans rc') (by omega) a27 (putIs_of n rc' hlo h8 ok sp) (by omega)
theorem insE_len (es : List En) (i : Nat) (e : En) (hi : i ≤ es.length) : (insE es i e).length = es.length + 1 := by simp [insE]; omega
theorem PlE.take {es : List En} {key : ByteArray} {n : Nat} (p : PlE es key n) : ∀ e ∈ es.take n, sLt e.1 key = true := fun e he => by
  obtain ⟨i, hi⟩ := List.getElem?_of_mem he
  have hlt := (List.getElem?_eq_some_iff.1 hi).1
  rw [List.length_take] at hlt
  rw [List.getElem?_take, if_pos (by omega)] at hi
  exact p.lo i e (by omega) hi
theorem PlE.drop {es : List En} {key : ByteArray} {n : Nat} (p : PlE es key n) : ∀ e ∈ es.drop n, sLt e.1 key = false := fun e he => by
  obtain ⟨i, hi⟩ := List.getElem?_of_mem he
  rw [List.getElem?_drop] at hi
  exact p.hi (n + i) e (by omega) hi
theorem hit_true {es : List En} {key : ByteArray} {n : Nat} (h : hit es key n = true) : ∃ e, es[n]? = some e ∧ e.1 = key := by
  unfold hit at h
  split at h
  · rename_i e he; exact ⟨e, he, sEq_iff.1 h⟩
  · cases h
theorem hit_false {es : List En} {key : ByteArray} {n : Nat} (st : Srt es) (p : PlE es key n) (h : hit es key n = false) : ∀ e ∈ es.drop n, sLt key e.1 = true := fun e he => by
  have h1 := p.drop e he
  refine sLt_of_not h1 fun e0 => ?_
  obtain ⟨i, hi⟩ := List.getElem?_of_mem he
  rw [List.getElem?_drop] at hi
  cases i with
  | zero =>
    unfold hit at h
    rw [Nat.add_zero] at hi
    rw [hi] at h
    exact sEq_false.1 h e0
  | succ i =>
    obtain ⟨f, hf⟩ : ∃ f, es[n]? = some f := ⟨_, List.getElem?_eq_getElem (by have := (List.getElem?_eq_some_iff.1 hi).1; omega)⟩
    have h2 := st.lt (by omega : n < n + (i + 1)) hf hi
    rw [e0] at h2
    have h3 := p.hi n f (Nat.le_refl _) hf
    rw [h2] at h3; cases h3
theorem drop_hit {es : List En} {key : ByteArray} {n : Nat} (st : Srt es) {e : En} (he : es[n]? = some e) (hk : e.1 = key) : ∀ f ∈ es.drop (n + 1), sLt key f.1 = true := fun f hf => by
  obtain ⟨i, hi⟩ := List.getElem?_of_mem hf
  rw [List.getElem?_drop] at hi
  rw [← hk]
  exact st.lt (by omega) he hi
/-- the entry's ref is put in its place -/
theorem NodeT.hit {d : Nat} {L : List En} {e : En} {n : Nat} (x : NodeT A d es kids L) (st : Srt L) (pl : PlE es e.1 n) (hh : W.hit es e.1 n = true) : NodeT A d (es.set n e) kids (insL L e) := by
  obtain ⟨f, hf, hk⟩ := hit_true hh
  have hn := (List.getElem?_eq_some_iff.1 hf).1
  have ste := x.srt st
  have hdr : es.drop n = f :: es.drop (n + 1) := by
    have h2 := List.drop_eq_getElem_cons hn
    rw [List.getElem?_eq_getElem hn] at hf
    rw [Option.some.inj hf] at h2
    exact h2
  cases d with
  | zero =>
    obtain ⟨h1, rfl⟩ := x
    refine ⟨h1, ?_⟩
    have hes : L = L.take n ++ f :: L.drop (n + 1) := by rw [← hdr, List.take_append_drop]
    rw [set_eq' hn]
    conv => lhs; rw [hes]
    exact insL_hit pl.take (drop_hit ste hf hk) hk
  | succ d =>
    obtain ⟨sa, s, sb, p⟩ := x.parts (by omega : n ≤ es.length)
    have hset : es.set n e = es.take n ++ e :: es.drop (n + 1) := set_eq' hn
    have hl := p.l
    rw [hdr] at hl
    have hsb := p.sbl
    rw [hdr] at hsb
    cases sb with
    | nil => simp at hsb
    | cons t sb =>
      have hl2 : L = (W1 sa (es.take n) ++ s) ++ f :: (t ++ W2 (es.drop (n + 1)) sb) := by rw [hl]; simp [W2]
      have hst := st
      rw [hl2] at hst
      unfold Srt at hst
      rw [List.pairwise_append] at hst
      have b1 : ∀ x ∈ W1 sa (es.take n) ++ s, sLt x.1 e.1 = true := fun y hy => by rw [← hk]; exact hst.2.2 y hy f (by simp)
      have b2 : ∀ x ∈ t ++ W2 (es.drop (n + 1)) sb, sLt e.1 x.1 = true := fun y hy => by rw [← hk]; exact (List.pairwise_cons.1 hst.2.1).1 y hy
      rw [hl2, insL_hit b1 b2 hk]
      obtain ⟨h1, subs, h2, h3, h4⟩ := x
      refine ⟨by simpa using h1, sa ++ s :: t :: sb, ?_, fun i k u hk hu => ?_, ?_⟩
      · have := p.sal; simp at hsb this ⊢; omega
      · have l1 : sa.length = n := by rw [p.sal, List.length_take]; omega
        rcases Nat.lt_trichotomy i n with h5 | h5 | h5
        · rw [List.getElem?_append_left (by omega)] at hu
          exact p.left i k u h5 hk hu
        · subst h5
          rw [List.getElem?_append_right (by omega), l1, Nat.sub_self, List.getElem?_cons_zero] at hu
          cases hu
          obtain ⟨k', hk', t'⟩ := p.kid
          rw [hk] at hk'; cases hk'
          exact t'
        · rw [List.getElem?_append_right (by omega), l1, show i - n = (i - n - 1) + 1 by omega, List.getElem?_cons_succ] at hu
          exact p.right (i - n - 1) k u (by rw [show n + 1 + (i - n - 1) = i by omega]; exact hk) hu
      · rw [hset, weave_mid sa (es.take n) s (t :: sb) (e :: es.drop (n + 1)) p.sal (by simpa using hsb)]
        simp [W2]
end
end Go.Dn.W
