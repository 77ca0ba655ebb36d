/- Forests: on the way through put. -/
import Derived.Test.YtbipdjmdacelkaaGreatDnLi
set_option linter.unusedVariables false
namespace Go.Dn.W
open Go Go.Dn Go.Proofs

/-! ### nodes split, and what they have -/
theorem cutE_get {es : List En} (h8 : es.length = 8) {e : En} (he : es[4]? = some e) : es = cutE es 0 4 ++ e :: cutE es 5 8 := by
  have h1 : es.drop 4 = e :: es.drop 5 := by
    have hi := (List.getElem?_eq_some_iff.1 he).1
    have h2 := List.drop_eq_getElem_cons hi
    rw [List.getElem?_eq_getElem hi] at he
    rw [Option.some.inj he] at h2
    exact h2
  have h2 : cutE es 5 8 = es.drop 5 := by unfold cutE; exact List.take_of_length_le (by simp; omega)
  have h3 : cutE es 0 4 = es.take 4 := by unfold cutE; rw [List.drop_zero]
  rw [h2, h3, ← h1, List.take_append_drop]
theorem NodeT.split {A : Ar} {d : Nat} {es : List En} {kids : List Nat} {L : List En} (n : NodeT A d es kids L) (h8 : es.length = 8) {e : En} (he : es[4]? = some e) :
    ∃ l1 l2, NodeT A d (cutE es 0 4) (cutK kids 0 4) l1 ∧ NodeT A d (cutE es 5 8) (cutK kids 5 8) l2 ∧ L = l1 ++ e :: l2 := by
  have hes := cutE_get h8 he
  have c1 : (cutE es 0 4).length = 4 := by unfold cutE; simp; omega
  have c2 : (cutE es 5 8).length = 3 := by unfold cutE; simp; omega
  cases d with
  | zero =>
    obtain ⟨hk, hl⟩ := n
    subst hk hl
    exact ⟨_, _, ⟨by simp [cutK], rfl⟩, ⟨by simp [cutK], rfl⟩, hes⟩
  | succ d =>
    obtain ⟨h1, subs, h2, h3, h4⟩ := n
    have k1 : (cutK kids 0 4).length = 5 := by unfold cutK; simp; omega
    have k2 : (cutK kids 5 8).length = 4 := by unfold cutK; simp; omega
    refine ⟨weave (subs.take 5) (cutE es 0 4), weave (subs.drop 5) (cutE es 5 8), ⟨by omega, subs.take 5, by simp; omega, fun i k s hk hs => ?_, rfl⟩, ⟨by omega, subs.drop 5, by simp; omega, fun i k s hk hs => ?_, rfl⟩, ?_⟩
    · unfold cutK at hk
      rw [List.drop_zero, List.getElem?_take] at hk
      rw [List.getElem?_take] at hs
      split at hk
      · rw [if_pos (by omega)] at hs; exact h3 i k s hk hs
      · cases hk
    · unfold cutK at hk
      rw [List.getElem?_take, List.getElem?_drop] at hk
      rw [List.getElem?_drop] at hs
      split at hk
      · exact h3 _ k s hk hs
      · cases hk
    · obtain ⟨s, hs⟩ : ∃ s, subs[4]? = some s := ⟨_, List.getElem?_eq_getElem (by omega)⟩
      obtain ⟨t, ht⟩ : ∃ t, subs[5]? = some t := ⟨_, List.getElem?_eq_getElem (by omega)⟩
      have e1 : subs.drop 5 = t :: subs.drop 6 := by
        have hi := (List.getElem?_eq_some_iff.1 ht).1
        have h2 := List.drop_eq_getElem_cons hi
        rw [List.getElem?_eq_getElem hi] at ht
        rw [Option.some.inj ht] at h2
        exact h2
      have e2 : subs.take 5 = subs.take 4 ++ [s] := by rw [List.take_add_one, hs]; rfl
      have e3 : subs = subs.take 4 ++ s :: t :: subs.drop 6 := by
        have := List.take_append_drop 5 subs
        rw [e1, e2] at this
        simpa using this.symm
      rw [h4, e1, e2]
      conv => lhs; rw [e3, hes]
      exact weave_split _ _ s t _ _ e (by simp; omega) (by simp; omega)
theorem NodeT.mem {A : Ar} {d : Nat} {es : List En} {kids : List Nat} {L : List En} (n : NodeT A d es kids L) : ∀ e ∈ es, e ∈ L := by
  intro e he
  cases d with
  | zero => rw [n.2]; exact he
  | succ d =>
    obtain ⟨sa, s, sb, p⟩ := n.parts (Nat.le_refl es.length)
    rw [p.l]
    have := mem_W1 sa (es.take es.length) p.sal (by rw [List.take_length]; exact he)
    exact List.mem_append_left _ (List.mem_append_left _ this)
theorem NodeT.srt {A : Ar} {d : Nat} {es : List En} {kids : List Nat} {L : List En} (n : NodeT A d es kids L) (st : Srt L) : Srt es := by
  cases d with
  | zero => rw [n.2] at st; exact st
  | succ d =>
    obtain ⟨h1, subs, h2, h3, rfl⟩ := n
    have : List.Sublist es (weave subs es) := by
      have key : ∀ (ss : List (List En)) (es : List En), ss.length = es.length + 1 → List.Sublist es (weave ss es) := by
        intro ss
        induction ss with
        | nil => intro es h; simp at h
        | cons s ss ih =>
          intro es h
          cases es with
          | nil => exact List.nil_sublist _
          | cons e es =>
            show List.Sublist (e :: es) (s ++ e :: weave ss es)
            exact ((ih es (by simpa using h)).cons_cons e).trans (List.sublist_append_right s _)
      exact key subs es (by omega)
    exact List.Pairwise.sublist this st
theorem NodeT.ok {A : Ar} {d : Nat} {es : List En} {kids : List Nat} {L : List En} (n : NodeT A d es kids L) (ok : ∀ x ∈ L, x.Ok) (hn : es.length ≤ 8) (hw : A.w.length ≤ 1048576) : NdOk A es kids := by
  refine ⟨fun e he => ok e (n.mem e he), by omega, fun p hp => ?_, ?_⟩
  · cases d with
    | zero => rw [n.1] at hp; simp at hp
    | succ d =>
      obtain ⟨h1, subs, h2, h3, h4⟩ := n
      obtain ⟨i, hi⟩ := List.getElem?_of_mem hp
      have hi2 := (List.getElem?_eq_some_iff.1 hi).1
      obtain ⟨s, hs⟩ : ∃ s, subs[i]? = some s := ⟨_, List.getElem?_eq_getElem (by omega)⟩
      obtain ⟨es', kids', a1, _⟩ := h3 i p s hi hs
      have := a1.lt
      exact ⟨a1.is, by omega⟩
  · rcases n.klen with h | h
    · rw [h]; exact Nat.zero_le _
    · omega
/-- what put makes of a place -/
def PutIs (A : Ar) (lo d l r : Nat) (m : En) (L : List En) : Prop :=
  (r = 0 ∧ Tree A lo d l L) ∨ (r ≠ 0 ∧ m.Ok ∧ ∃ l1 l2, Tree A 3 d l l1 ∧ Tree A 3 d r l2 ∧ L = l1 ++ m :: l2)
theorem putIs_of {A A' : Ar} {lo d l r : Nat} {m : En} {es : List En} {kids : List Nat} {L : List En} (n : NodeT A d es kids L) (x : Reach A A') (hlo : lo ≤ es.length) (h8 : es.length ≤ 8) (ok : ∀ x ∈ L, x.Ok) (s : SplitIs A' es kids l r m) : PutIs A' lo d l r m L := by
  rcases s with ⟨h1, h2, h3⟩ | ⟨h1, h2, h3, h4, h5⟩
  · exact .inl ⟨h1, es, kids, h3, hlo, h2, n.reach x⟩
  · have e8 : es.length = 8 := by omega
    rw [e8] at h3 h4 h5
    rw [show 8 / 2 = 4 from rfl] at h3 h4 h5
    rw [show 4 + 1 = 5 from rfl] at h5
    obtain ⟨l1, l2, n1, n2, hl⟩ := n.split e8 h3
    have c1 : (cutE es 0 4).length = 4 := by unfold cutE; simp; omega
    have c2 : (cutE es 5 8).length = 3 := by unfold cutE; simp; omega
    exact .inr ⟨h1, ok m (by rw [hl]; simp), l1, l2, ⟨_, _, h4, by omega, by omega, n1.reach x⟩, ⟨_, _, h5, by omega, by omega, n2.reach x⟩, hl⟩

/-! ### stores -/
section
variable {h : Mem} {ka : Nat} {A : Ar} {s1 s2 s3 : Sl} {es : List En} {kids : List Nat}
theorem storeN {B : Nat} {t e : TypeId} {z i : Nat} {s : Sl} {xs vs : List Value} {v : Value} {K : Mem → Prop} (hu : ∃ d, PG.underlying t = some d) (hsz : szOf PG t = z) (o : Owns h B e z s xs) (hi : i < s.len) (hv : v.cells = vs.toArray) (hvl : vs.length = z) (h1 : ∀ u ∈ vs, u.oneCell' = true) {a : Addr} (ha : s.a = some a)
    (hk : ∀ h', Owns h' B e z s (xs.take (i * z) ++ vs ++ xs.drop (i * z + z)) → Upd a.block h h' → K h') : St PG t (a.add (i * z)) v h K := by
  obtain ⟨d, hd⟩ := hu
  rcases o.2 with ⟨hv', _⟩ | ⟨g, cap, cur, hv', hB, hg, hc, hm, hcs, htk⟩
  · simp only [Value.slice.injEq] at hv'; rw [hv'.1] at ha; cases ha
  · simp only [Value.slice.injEq] at hv'
    rw [hv'.1] at ha
    cases ha
    have hg : h[g]? = some (.cells cur e (0, 0)) := hg
    have hxl := o.1
    have h2 : (i + 1) * z ≤ s.len * z := Nat.mul_le_mul_right _ hi
    have h3 : (i + 1) * z = i * z + z := Nat.succ_mul ..
    have h4 : s.len * z ≤ cap * z := Nat.mul_le_mul_right _ hc
    rw [add_off, Nat.zero_add]
    refine St.row hd hv (by rw [hsz, hvl]) h1 hg (by rw [hvl, hcs]; omega) fun h' u r => hk h' ⟨by simp [hvl]; omega, .inr ⟨g, cap, _, by rw [hv'.1, hv'.2.2], hB, r, hc, hm, ?_, ?_⟩⟩ u
    · simp only [List.size_toArray, List.length_append, List.length_take, List.length_drop, Array.length_toList, hvl]; omega
    · have t1 : cur.toList.take (i * z) = xs.take (i * z) := by rw [← htk, List.take_take]; congr 1; omega
      have t2 : (cur.toList.drop (i * z + z)).take (s.len * z - (i * z + z)) = xs.drop (i * z + z) := by rw [← htk, List.drop_take]
      show (cur.toList.take (i * z) ++ vs ++ cur.toList.drop (i * z + vs.length)).take (s.len * z) = _
      rw [hvl, List.take_append, t1, List.take_of_length_le (by simp [hvl]; omega), show s.len * z - (xs.take (i * z) ++ vs).length = s.len * z - (i * z + z) by simp [hvl]; omega, t2]
theorem set_eq' {α : Type} {l : List α} {i : Nat} {x : α} (hi : i < l.length) : l.set i x = l.take i ++ x :: l.drop (i + 1) := by
  rw [List.set_eq_take_append_cons_drop, if_pos hi]
theorem rfvs_set {es : List En} {i : Nat} {e : En} (hi : i < es.length) : (rfvs es).take (i * 3) ++ rfv e.2 ++ (rfvs es).drop (i * 3 + 3) = rfvs (es.set i e) := by
  rw [set_eq' hi, rfvs_take, show i * 3 + 3 = (i + 1) * 3 by omega, rfvs_drop, rfvs_app, show rfvs (e :: es.drop (i + 1)) = rfv e.2 ++ rfvs (es.drop (i + 1)) by simp [rfvs]]
  simp

/-! ### on the way -/
structure PL (h0 h : Mem) (kf ka k1 k3 k5 B : Nat) (A : Ar) (r : Rf) (s1 s2 s3 : Sl) (es : List En) (kids : List Nat) : Prop where
  f : FoAt h kf ka A
  ax : ArX ka h0.size h0 h
  r1 : h[k1]? = some (.cells (rfv r).toArray ty_api_Ref (0, 0))
  r3 : h[k3]? = some (.cells (hcells' 0 0 (ByteArray.mk #[]) 0 0 0).toArray ty_btree_halves (0, 0))
  r5 : h[k5]? = some (.cells (ndcells s1 s2 s3).toArray ty_btree_node (0, 0))
  nd : NdO h B s1 s2 s3 es kids
  f3 : ∀ a, s3.a = some a → Safe h ka a.block
  ks : kf < h0.size ∧ h0.size ≤ k1 ∧ k1 < B ∧ h0.size ≤ k3 ∧ k3 < B ∧ h0.size ≤ k5 ∧ k5 < B ∧ B ≤ h.size
variable {h0 : Mem} {kf k1 k3 k5 B : Nat} {r : Rf}
theorem PL.nde (p : PL h0 h kf ka k1 k3 k5 B A r s1 s2 s3 es kids) : NdE h ka s1 s2 s3 es kids :=
  ⟨Owns.els p.nd.k, Owns.elsR p.nd.r, Owns.els p.nd.p, fun a ha => let ⟨_, _, c, hc⟩ := p.nd.k.blk ha; safeT p.f.a hc (by decide) (by decide) (by decide),
   fun a ha => let ⟨_, _, c, hc⟩ := p.nd.r.blk ha; safeT p.f.a hc (by decide) (by decide) (by decide), p.f3⟩
theorem PL.sf1 (p : PL h0 h kf ka k1 k3 k5 B A r s1 s2 s3 es kids) : Safe h ka k1 := safeT p.f.a p.r1 (by decide) (by decide) (by decide)
theorem PL.sf3 (p : PL h0 h kf ka k1 k3 k5 B A r s1 s2 s3 es kids) : Safe h ka k3 := safeT p.f.a p.r3 (by decide) (by decide) (by decide)
theorem PL.sf5 (p : PL h0 h kf ka k1 k3 k5 B A r s1 s2 s3 es kids) : Safe h ka k5 := safeT p.f.a p.r5 (by decide) (by decide) (by decide)
theorem PL.arx {h' : Mem} {A' : Ar} (p : PL h0 h kf ka k1 k3 k5 B A r s1 s2 s3 es kids) (f : FoAt h' kf ka A') (x : ArX ka h.size h h') : PL h0 h' kf ka k1 k3 k5 B A' r s1 s2 s3 es kids := by
  have n := p.nde
  have z := x.size
  have ks := p.ks
  exact ⟨f, p.ax.trans (x.less p.ax.size), (p.sf1.keep p.sf1.1 x).trans p.r1, (p.sf3.keep p.sf3.1 x).trans p.r3, (p.sf5.keep p.sf5.1 x).trans p.r5,
    ⟨p.nd.k.kept fun a ha => (n.f1 a ha).keep (n.f1 a ha).1 x, p.nd.r.kept fun a ha => (n.f2 a ha).keep (n.f2 a ha).1 x, p.nd.p.kept fun a ha => (n.f3 a ha).keep (n.f3 a ha).1 x⟩, fun a ha => (p.f3 a ha).arx (p.f3 a ha).1 x, by omega⟩
theorem PL.ext {h' : Mem} (p : PL h0 h kf ka k1 k3 k5 B A r s1 s2 s3 es kids) (x : Ext h.size h h') : PL h0 h' kf ka k1 k3 k5 B A r s1 s2 s3 es kids := p.arx (p.f.ext x) (p.f.a.arx x)
/-- blocks that are not of the arena have turned -/
theorem ArAt.frame {h h' : Mem} (a : ArAt h ka A) (hk : ∀ j, InAr h ka j → h'[j]? = h[j]?) : ArAt h' ka A := by
  obtain ⟨sw, sr, mp, n, a⟩ := a
  exact ⟨sw, sr, mp, n, (hk ka (.inl rfl)).trans a.r, a.w.kept fun ad ha => hk _ (a.wIn ha), a.roots.kept fun ad ha => hk _ (a.rIn ha), a.set.keep (hk _ a.mIn), a.wb, a.rb, a.most, a.n⟩
theorem ArX.frame {h h' : Mem} {m : Nat} (hz : h.size ≤ h'.size) (hk : ∀ j, InAr h ka j → h'[j]? = h[j]?) (hm : ∀ j, j < m → ¬ InAr h ka j → h'[j]? = h[j]?) : ArX ka m h h' := ⟨hz, hm, fun j hj => .inr (inAr_of (hk ka (.inl rfl)) hj)⟩
/-- the ref at a place is stored -/
theorem PL.setRef {i : Nat} {key : ByteArray} {K : Mem → Prop} (p : PL h0 h kf ka k1 k3 k5 B A r s1 s2 s3 es kids) (hi : i < es.length) (hkey : ∀ e, es[i]? = some e → e.1 = key) {a : Addr} (ha : s2.a = some a)
    (hk : ∀ h', PL h0 h' kf ka k1 k3 k5 B A r s1 s2 s3 (es.set i (key, r)) kids → K h') : St PG ty_api_Ref (a.add (i * 3)) (.agg #[.int .u64 (r.ser : Int), .int .i64 (r.pos : Int), .int .i64 (r.len : Int)]) h K := by
  have ks := p.ks
  have n := p.nde
  obtain ⟨hb1, hb2, c, hc⟩ := p.nd.r.blk ha
  refine storeN (vs := rfv r) und_ref sz_ref p.nd.r (by rw [(Owns.elsR p.nd.r).len]; exact hi) rfl rfl one_rf ha fun h' o u => hk h' ?_
  have hsf := n.f2 a ha
  have frm : ∀ j, InAr h ka j → h'[j]? = h[j]? := fun j hj => u.block j fun e => hsf.2 (e ▸ hj)
  have a' := p.f.a.frame frm
  have hka : h'[ka]? = h[ka]? := frm ka (.inl rfl)
  refine ⟨⟨u.row p.f.r (by omega), a'⟩, p.ax.trans (ArX.frame (Nat.le_of_eq u.size.symm) frm fun j hj _ => u.block j (by omega)), u.row p.r1 (by omega), u.row p.r3 (by omega), u.row p.r5 (by omega), ⟨?_, ?_, p.nd.p.updT u hc (by decide)⟩, fun b hb => ⟨by rw [u.size]; exact (p.f3 b hb).1, fun hin => (p.f3 b hb).2 (inAr_of hka hin)⟩, by rw [u.size]; omega⟩
  · have := p.nd.k.updT u hc (by decide)
    have e1 : (es.set i (key, r)).map ecell = es.map ecell := by
      rw [List.map_set]
      apply List.ext_getElem?
      intro j
      by_cases hj : j = i
      · subst hj
        obtain ⟨e, he⟩ : ∃ e, es[j]? = some e := ⟨_, List.getElem?_eq_getElem hi⟩
        rw [List.getElem?_set_self (by simpa using hi), List.getElem?_map, he]
        show some (Value.string key) = some (Value.string e.1)
        rw [hkey e he]
      · rw [List.getElem?_set_ne (by omega)]
    rw [e1]; exact this
  · have e2 := rfvs_set (es := es) (e := (key, r)) hi
    rw [← e2]; exact o
/-- an entry is put in -/
theorem PL.insert {i : Nat} {m : En} {Q : Mem → Prop} (p : PL h0 h kf ka k1 k3 k5 B A r s1 s2 s3 es kids) (hi : i ≤ es.length) (hn : es.length ≤ 1000)
    (hk : ∀ s1' s2' h', PL h0 h' kf ka k1 k3 k5 B A r s1' s2' s3 (insE es i m) kids → Ext h0.size h h' ∨ True → (∀ j, j < h.size → j ≠ k5 → (∀ a, s1.a = some a → j ≠ a.block) → (∀ a, s2.a = some a → j ≠ a.block) → h'[j]? = h[j]?) → Q h') :
    CallF PG fn_btree_leaf_insert [.pointer (some ⟨k5, 0, none⟩), .int .i64 (i : Int), .string m.1, .agg #[.int .u64 (m.2.ser : Int), .int .i64 (m.2.pos : Int), .int .i64 (m.2.len : Int)]] (.tup []) h Q := by
  have ks := p.ks
  have n := p.nde
  refine ct_insert p.r5 ks.2.2.2.2.2.2.2 p.nd.k p.nd.r hi hn fun s1' s2' h' hz frm r5 o1 o2 => hk s1' s2' h' ?_ (.inr trivial) frm
  have frmA : ∀ j, InAr h ka j → h'[j]? = h[j]? := fun j hj => frm j (by obtain ⟨_, _, _, _, a⟩ := p.f.a; exact a.below hj) (fun e => p.sf5.2 (e ▸ hj)) (fun a ha e => (n.f1 a ha).2 (e ▸ hj)) (fun a ha e => (n.f2 a ha).2 (e ▸ hj))
  have lowB : ∀ j, j < B → j ≠ k5 → h'[j]? = h[j]? := fun j hj h5 => frm j (by omega) h5 (fun a ha => by have := (p.nd.k.blk ha).1; omega) (fun a ha => by have := (p.nd.r.blk ha).1; omega)
  have hka : h'[ka]? = h[ka]? := frmA ka (.inl rfl)
  have n13 := ne_row p.r1 p.r5 (by decide)
  have n35 := ne_row p.r3 p.r5 (by decide)
  refine ⟨⟨(lowB _ (by omega) (by omega)).trans p.f.r, p.f.a.frame frmA⟩, p.ax.trans (ArX.frame hz frmA fun j hj _ => lowB j (by omega) (by omega)), (lowB _ (by omega) n13).trans p.r1, (lowB _ (by omega) n35).trans p.r3, r5, ⟨o1, o2, p.nd.p.kept fun a ha => ?_⟩, fun b hb => ⟨Nat.lt_of_lt_of_le (p.f3 b hb).1 hz, fun hin => (p.f3 b hb).2 (inAr_of hka hin)⟩, by omega⟩
  obtain ⟨_, hlt, c, hc⟩ := p.nd.p.blk ha
  refine frm _ hlt (ne_row hc p.r5 (by decide)) (fun a' ha' e => ?_) fun a' ha' e => ?_
  · obtain ⟨_, _, c', hc'⟩ := p.nd.k.blk ha'
    rw [← e, hc] at hc'; cases hc'
  · obtain ⟨_, _, c', hc'⟩ := p.nd.r.blk ha'
    rw [← e, hc] at hc'; cases hc'
end
end Go.Dn.W
