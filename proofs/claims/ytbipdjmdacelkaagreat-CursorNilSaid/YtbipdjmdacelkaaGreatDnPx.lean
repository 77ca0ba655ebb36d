/- Forests: Put, where there is room. -/
import Derived.Test.YtbipdjmdacelkaaGreatDnPw
set_option linter.unusedVariables false
namespace Go.Dn.W
open Go Go.Dn Go.Proofs

def RtIs (A : Ar) (r : Nat) (l : List En) : Prop := (r = 0 ∧ l = []) ∨ ∃ d, Tree A 1 d r l
theorem RtIs.reach {A A' : Ar} {r : Nat} {l : List En} (x : Reach A A') (t : RtIs A r l) : RtIs A' r l := t.imp id fun ⟨d, h⟩ => ⟨d, h.reach x⟩
structure FoIs (h : Mem) (kf ka : Nat) (A : Ar) (L : Nat → List En) : Prop where
  f : FoAt h kf ka A
  ok : ArOk A
  rl : A.roots.length = 16
  rt : ∀ i, i < 16 → ∃ r, A.roots[i]? = some r ∧ RtIs A r (L i)
  srt : ∀ i, Srt (L i)
  ent : ∀ i, ∀ x ∈ L i, x.Ok
theorem FoIs.ext {h h' : Mem} {kf ka : Nat} {A : Ar} {L : Nat → List En} (f : FoIs h kf ka A L) (x : Ext h.size h h') : FoIs h' kf ka A L := ⟨f.f.ext x, f.ok, f.rl, f.rt, f.srt, f.ent⟩
/-- how deep a tree of so many entries is at the most -/
theorem W1_len : ∀ (sa : List (List En)) (ea : List En) (c : Nat), sa.length = ea.length → (∀ s ∈ sa, c ≤ s.length + 1) → sa.length * c ≤ (W1 sa ea).length
  | [], [], c, _, _ => by simp
  | s :: sa, e :: ea, c, h, hc => by
    have := W1_len sa ea c (by simpa using h) fun s hs => hc s (by simp [hs])
    have h1 := hc s (by simp)
    simp only [W1, List.length_append, List.length_cons]
    rw [Nat.succ_mul]
    omega
theorem weave_len {ss : List (List En)} {es : List En} {c : Nat} (h : ss.length = es.length + 1) (hc : ∀ s ∈ ss, c ≤ s.length + 1) : (es.length + 1) * c ≤ (weave ss es).length + 1 := by
  obtain ⟨s, hs⟩ : ∃ s, ss = ss.take es.length ++ [s] := by
    have hl : es.length < ss.length := by omega
    have h2 := List.drop_eq_getElem_cons hl
    have h3 : ss.drop (es.length + 1) = [] := List.drop_eq_nil_of_le (by omega)
    rw [h3] at h2
    exact ⟨_, by rw [← h2, List.take_append_drop]⟩
  have hw := weave_mid (ss.take es.length) es s [] [] (by simp; omega) rfl
  rw [List.append_nil, ← hs] at hw
  have h1 := W1_len (ss.take es.length) es c (by simp; omega) fun s hs' => hc s (List.mem_of_mem_take hs')
  have h2 := hc s (by rw [hs]; simp)
  rw [List.length_take, Nat.min_eq_left (by omega)] at h1
  rw [hw, List.length_append, List.length_append, Nat.succ_mul]
  simp only [W2, List.length_nil]
  omega
theorem NodeT.count {A : Ar} : ∀ {d : Nat} {es : List En} {kids : List Nat} {l : List En}, NodeT A d es kids l → (es.length + 1) * 4 ^ d ≤ l.length + 1
  | 0, es, kids, l, ⟨_, h⟩ => by rw [h]; simp
  | d + 1, es, kids, l, ⟨h1, subs, h2, h3, h4⟩ => by
    rw [h4]
    have := weave_len (ss := subs) (es := es) (c := 4 ^ (d + 1)) (by omega) fun s hs => by
      obtain ⟨i, hi⟩ := List.getElem?_of_mem hs
      have hlt := (List.getElem?_eq_some_iff.1 hi).1
      obtain ⟨k, hk⟩ : ∃ k, kids[i]? = some k := ⟨_, List.getElem?_eq_getElem (by omega)⟩
      obtain ⟨es', kids', _, a2, _, a4⟩ := h3 i k s hk hi
      have h5 := NodeT.count a4
      have h6 : 4 * 4 ^ d ≤ (es'.length + 1) * 4 ^ d := Nat.mul_le_mul_right _ (by omega)
      rw [Nat.pow_succ]
      omega
    exact this
theorem Tree.depth {A : Ar} {d r D : Nat} {l : List En} (t : Tree A 1 d r l) (h : l.length + 1 < 2 * 4 ^ (D + 1)) : d ≤ D := by
  obtain ⟨es, kids, _, a2, _, a4⟩ := t
  have h1 := a4.count
  rcases Nat.lt_or_ge D d with h2 | h2
  · have h3 : 4 ^ (D + 1) ≤ 4 ^ d := Nat.pow_le_pow_right (by decide) h2
    have h4 : 2 * 4 ^ d ≤ (es.length + 1) * 4 ^ d := Nat.mul_le_mul_right _ (by omega)
    omega
  · exact h2
section
variable {h : Mem} {ka kf : Nat} {A : Ar}
theorem ct_Put_1 {k1 k3 k5 r D : Nat} {l : List En} {e : En} {Q : Int → Int → Mem → Prop} (f : FoAt h kf ka A) (ok : ArOk A) (t : RtIs A r l) (st : Srt l) (okl : ∀ x ∈ l, x.Ok) (oke : e.Ok) (hD : l.length + 1 < 2 * 4 ^ (D + 1))
    (r1 : h[k1]? = some (.cells #[.pointer (some ⟨kf, 0, none⟩)] ty_ptr_btree_Forest (0, 0))) (r3 : h[k3]? = some (.cells #[.string e.1] ty_string (0, 0))) (r5 : h[k5]? = some (.cells (rfv e.2).toArray ty_api_Ref (0, 0)))
    (q1 : A.most < A.w.length + 180 * (D + 1) + 30 → ∀ a h' A', FoAt h' kf ka A' → Reach A A' → ArX ka h.size h h' → Q a 3 h')
    (q2 : ∀ (r' : Nat) h' A', FoAt h' kf ka A' → Reach A A' → A'.w.length ≤ A.w.length + 180 * (D + 1) + 30 → ArX ka h.size h h' → (∃ d, Tree A' 1 d r' (insL l e)) → Q (r' : Int) 0 h') :
    CallF PG fn_btree_Forest_Put_1 [.int .i64 (r : Int), .pointer (some ⟨k1, 0, none⟩), .pointer (some ⟨k3, 0, none⟩), .pointer (some ⟨k5, 0, none⟩)] (.tup [.leaf (.int .i64), .leaf (.int .i64)]) h Q := by
  have hkf := row_lt f.r
  have sf1 := safeT f.a r1 (by decide) (by decide) (by decide)
  obtain ⟨d, hd, ht⟩ : ∃ d, d ≤ D ∧ ((r = 0 ∧ d = 0 ∧ l = [] ∧ 1 ≤ 1) ∨ Tree A 1 d r l) := by
    rcases t with ⟨h1, h2⟩ | ⟨d, h1⟩
    · exact ⟨0, Nat.zero_le _, .inl ⟨h1, rfl, h2, Nat.le_refl _⟩⟩
    · exact ⟨d, h1.depth hD, .inr h1⟩
  refine call_btree_Forest_Put_1 ?_
  show Ld _ _ _ _ _ _
  refine Ld.pf (row_cell r1 rfl) ?_
  show Ld _ _ _ _ _ _
  refine Ld.str (row_cell r3 rfl) ?_
  show Ld _ _ _ _ _ _
  refine Ld.ref (Cells.whole r5) ?_
  refine ct_put d f ok ht st okl oke (fun hb lf rg k a b c h16 A' f16 rc16 a16 => ?_) fun lf rg m h16 A' f16 rc16 hw16 a16 pi hlf => ?_
  · refine New.go fun h18 _ x18 z18 r18 => St.all und_hv rfl (vs := hcells' lf rg k a b c) sz_hv one_hv r18 rfl fun h19 u19 r19 => Br.t rfl ?_
    have f18 := f16.ext x18
    have a18 := f16.a.arx x18
    obtain ⟨f19, a19⟩ := f18.upd (f16.a.safe x18 (Nat.le_refl _) (by omega)) (m := h.size) (by have := a16.size; omega) a16.size u19
    exact q1 (by omega) _ h19 A' f19 rc16 ((a16.after a18).trans a19)
  · refine New.go fun h18 _ x18 z18 r18 => St.all und_hv rfl (vs := hcells' (lf : Int) (rg : Int) m.1 (m.2.ser : Int) (m.2.pos : Int) (m.2.len : Int)) sz_hv one_hv r18 rfl fun h19 u19 r19 => Br.f rfl ?_
    have f18 := f16.ext x18
    have a18 := f16.a.arx x18
    have z16 := a16.size
    obtain ⟨f19, a19⟩ := f18.upd (f16.a.safe x18 (Nat.le_refl _) (by omega)) (m := h.size) (by omega) z16 u19
    have a019 := (a16.after a18).trans a19
    have r119 := (u19.row (x18.row' ((sf1.keep sf1.1 a16).trans r1)) (by have := row_lt r1; omega))
    show Ld _ _ _ _ _ _
    refine Ld.pf (row_cell r119 rfl) (Ld.hv (Cells.whole r19) ?_)
    have hA : A'.w.length ≤ 1048576 := by obtain ⟨_, _, _, _, a⟩ := f16.a; have := a.most; omega
    have rcl := rc16.len
    have rcm := rc16.most
    refine ct_root (e := m) f19 (fun hr => ?_) (fun hr h30 f30 a30 => ?_) (fun hb h30 f30 a30 => ?_) fun hr okn hb h30 f30 a30 => ?_
    · rcases pi with ⟨h1, _⟩ | ⟨_, mok, l1, l2, t1, t2, _⟩
      · exact absurd h1 hr
      · exact ⟨t1.is.1, by have := t1.is.2; omega, t2.is.1, by have := t2.is.2; omega, mok⟩
    · rcases pi with ⟨_, t1⟩ | ⟨h1, _⟩
      · exact q2 lf h30 A' f30 rc16 (by omega) (a019.trans (a30.less a019.size)) ⟨d, t1⟩
      · exact absurd hr h1
    · exact q1 (by omega) _ h30 A' f30 rc16 (a019.trans (a30.less a019.size))
    · rcases pi with ⟨h1, _⟩ | ⟨_, mok, l1, l2, t1, t2, hl⟩
      · exact absurd h1 hr
      · have rc : Reach A' (A'.add (ndObj [m] [lf, rg])) := .add _ (.refl A') okn hb
        have hsz : (ndObj [m] [lf, rg]).size ≤ 30 := by
          have : (enc [m]).length ≤ 21 * [m].length := enc_len (es := [m]) (by simpa using mok)
          show 1 + 2 + (enc [m]).length ≤ 30
          have h1 : [m].length = 1 := rfl
          omega
        refine q2 A'.w.length h30 _ f30 (rc16.trans rc) (by rw [add_len]; omega) (a019.trans (a30.less a019.size)) ⟨d + 1, [m], [lf, rg], .added okn, by simp, by simp, by simp, [l1, l2], rfl, fun i k s hk hs => ?_, ?_⟩
        · match i, hk, hs with
          | 0, hk, hs => cases hk; cases hs; exact t1.reach rc
          | 1, hk, hs => cases hk; cases hs; exact t2.reach rc
          | i + 2, hk, hs => simp at hk
        · rw [hl]; simp [weave]
theorem ct_version {root : Int} {Q : Bool → Mem → Prop} (q : Q (decide (0 ≤ root ∧ root < 16)) h) : CallF PG fn_btree_version [.int .i64 root] (.one (.leaf .bool)) h Q := by
  refine call_btree_version (Br.mk (fun h1 => ?_) fun h1 => ?_)
  · have h1 : 0 ≤ root := by simpa using h1
    simpa [h1] using q
  · have h1 : ¬ 0 ≤ root := by simp at h1; omega
    simpa [h1] using q
theorem ct_May {key : ByteArray} {Q : Bool → Mem → Prop} (q : Q (decide (1 ≤ key.size ∧ key.size ≤ 64)) h) : CallF PG fn_keys_May [.string key] (.one (.leaf .bool)) h Q := by
  refine call_keys_May (Br.mk (fun h1 => ?_) fun h1 => ?_)
  · have h1 : 1 ≤ key.size := by simp at h1; omega
    have e : decide ((key.size : Int) ≤ 64) = decide (key.size ≤ 64) := by congr 1; apply propext; omega
    rw [e]
    simpa [h1] using q
  · have h1 : ¬ 1 ≤ key.size := by simp at h1; omega
    simpa [h1] using q
theorem ct_points {r : Rf} {Q : Bool → Mem → Prop} (hr : 1 ≤ r.ser ∧ r.pos ≤ 65536 ∧ r.len ≤ 4096) (q : ∀ h', Ext h.size h h' → Q true h') : CallF PG fn_btree_points [.agg #[.int .u64 (r.ser : Int), .int .i64 (r.pos : Int), .int .i64 (r.len : Int)]] (.one (.leaf .bool)) h Q := by
  refine call_btree_points (New.go fun h2 _ x2 z2 r2 => ?_)
  refine Ld.u (row_cell r2 rfl) (Br.t (by simp; omega) (Ld.i (row_at r2 rfl) (Br.t (by simp) (Ld.i (row_at r2 rfl) (Br.t (by simp; omega) (Ld.i (row_at r2 rfl) (Br.t (by simp) (Ld.i (row_at r2 rfl) ?_))))))))
  rw [show decide ((r.len : Int) ≤ 4096) = true by simp; omega]
  exact q h2 x2
def updL (L : Nat → List En) (i : Nat) (l : List En) : Nat → List En := fun j => if j = i then l else L j
theorem ct_twice {L : Nat → List En} {root : Nat} {l' : List En} {v : Value} {Q : Int → Mem → Prop} (f : FoIs h kf ka A L) (hroot : root < 16) (st : Srt l') (okl : ∀ x ∈ l', x.Ok) {N : Nat}
    (call : ∀ r, A.roots[root]? = some r → ∀ Q' : Int → Int → Mem → Prop, (∀ (r' : Nat) h' A', FoAt h' kf ka A' → Reach A A' → A'.w.length ≤ A.w.length + N → ArX ka h.size h h' → RtIs A' r' l' → Q' (r' : Int) 0 h') → CallV PG v [.int .i64 (r : Int)] (.tup [.leaf (.int .i64), .leaf (.int .i64)]) h Q')
    (q : ∀ h' A', FoIs h' kf ka A' (updL L root l') → A'.most = A.most → A'.w.length ≤ A.w.length + N → ArX ka h.size h h' → Q 0 h') :
    CallF PG fn_btree_Forest_twice [.pointer (some ⟨kf, 0, none⟩), .int .i64 (root : Int), v] (.one (.leaf (.int .i64))) h Q := by
  obtain ⟨r, hr, ht⟩ := f.rt root hroot
  refine call_btree_Forest_twice ?_
  show Ld _ _ _ _ _ _
  refine Ld.pa (row_cell f.f.r rfl) (ct_Root f.f.a hr ?_)
  refine call r hr _ fun r' h7 A' f7 rc hw ax hr' => Br.f rfl (Br.f rfl ?_)
  show Ld _ _ _ _ _ _
  have hrl := rc.roots
  have hr'b : (r' = 0 ∨ A'.objs r' = true) ∧ r' ≤ 4294967295 := by
    rcases hr' with ⟨h1, _⟩ | ⟨d, t⟩
    · exact ⟨.inl h1, by omega⟩
    · have hA : A'.w.length ≤ 1048576 := by obtain ⟨_, _, _, _, a⟩ := f7.a; have := a.most; omega
      exact ⟨.inr t.is.1, by have := t.is.2; omega⟩
  refine Ld.pa (row_cell f7.r rfl) (ct_SetRoot f7.a (by rw [hrl, f.rl]; exact hroot) hr'b.1 hr'b.2 fun h26 a26 x26 => ?_)
  refine q h26 _ ⟨f7.arx (row_lt f7.r) x26 a26, ⟨(f.ok.reach rc).pos, (f.ok.reach rc).zero⟩, by show (A'.roots.set root r').length = 16; rw [List.length_set, hrl, f.rl], fun i hi => ?_, fun i => ?_, fun i => ?_⟩ rc.most hw (ax.after x26)
  · have key : ∀ {r0 : Nat} {l0 : List En}, RtIs A' r0 l0 → RtIs { A' with roots := A'.roots.set root r' } r0 l0 := fun t0 => by
      rcases t0 with h1 | ⟨d, t⟩
      · exact .inl h1
      · right
        refine ⟨d, ?_⟩
        obtain ⟨es, kids, a1, a2, a3, a4⟩ := t
        have io : ∀ {k : Nat} {o : Obj'}, IsObj A' k o → IsObj { A' with roots := A'.roots.set root r' } k o := fun x => ⟨x.is, x.kind, x.ptrs, x.data, x.cut⟩
        have nt : ∀ (d : Nat) (es : List En) (kids : List Nat) (l : List En), NodeT A' d es kids l → NodeT { A' with roots := A'.roots.set root r' } d es kids l := by
          intro d
          induction d with
          | zero => intro es kids l h; exact h
          | succ d ih =>
            rintro es kids l ⟨h1, subs, h2, h3, h4⟩
            exact ⟨h1, subs, h2, fun i k s hk hs => by
              obtain ⟨es', kids', b1, b2, b3, b4⟩ := h3 i k s hk hs
              exact ⟨es', kids', io b1, b2, b3, ih _ _ _ b4⟩, h4⟩
        exact ⟨es, kids, io a1, a2, a3, nt d es kids _ a4⟩
    show ∃ r0, (A'.roots.set root r')[i]? = some r0 ∧ _
    by_cases h1 : i = root
    · subst h1
      refine ⟨r', List.getElem?_set_self (by rw [hrl, f.rl]; exact hi), ?_⟩
      show RtIs _ r' (updL L i l' i)
      unfold updL
      rw [if_pos rfl]
      exact key hr'
    · obtain ⟨r0, h2, h3⟩ := f.rt i hi
      refine ⟨r0, by rw [List.getElem?_set_ne (fun e => h1 e.symm), hrl]; exact h2, ?_⟩
      show RtIs _ r0 (updL L root l' i)
      unfold updL
      rw [if_neg h1]
      exact key (h3.reach rc)
  · unfold updL
    split
    · exact st
    · exact f.srt i
  · unfold updL
    split
    · exact okl
    · exact f.ent i
theorem ct_Put {L : Nat → List En} {root D : Nat} {e : En} {Q : Int → Mem → Prop} (f : FoIs h kf ka A L) (hroot : root < 16) (oke : e.Ok) (hser : 1 ≤ e.2.ser) (hD : (L root).length + 1 < 2 * 4 ^ (D + 1)) (room : A.w.length + 180 * (D + 1) + 30 ≤ A.most)
    (q : ∀ h' A', FoIs h' kf ka A' (updL L root (insL (L root) e)) → A'.most = A.most → A'.w.length ≤ A.w.length + (180 * (D + 1) + 30) → ArX ka h.size h h' → Q 0 h') :
    CallF PG fn_btree_Forest_Put [.pointer (some ⟨kf, 0, none⟩), .int .i64 (root : Int), .string e.1, .agg #[.int .u64 (e.2.ser : Int), .int .i64 (e.2.pos : Int), .int .i64 (e.2.len : Int)]] (.one (.leaf (.int .i64))) h Q := by
  refine call_btree_Forest_Put (New.go fun h2 _ x2 z2 r2 => New.go fun h4 _ x4 z4 r4 => New.go fun h6 _ x6 z6 r6 => ?_)
  have r26 := x6.row' (x4.row' r2)
  have r46 := x6.row' r4
  refine Ld.pf (row_cell r26 rfl) (Br.f rfl (ct_version (Br.f (by simp; omega) (Ld.str (row_cell r46 rfl) (ct_May (Br.f (by simp; exact ⟨oke.pos, oke.key⟩) (Ld.ref (Cells.whole r6) (ct_points ⟨hser, oke.ref.2⟩ fun h20 x20 => Br.f rfl ?_))))))))
  have x := x2.after (x4.after (x6.after x20))
  have f20 := f.ext x
  have ax := f.f.a.arx x
  refine Ld.pf (row_cell (x20.row' r26) rfl) ?_
  refine ct_twice (N := 180 * (D + 1) + 30) f20 hroot (f.srt root).insL (fun y hy => ?_) (fun r hr Q' q' => ?_) fun h' A' f' hm hw a' => q h' A' f' hm hw (ax.after a')
  · rcases mem_insL hy with rfl | h1
    · exact oke
    · exact f.ent root y h1
  · obtain ⟨r0, hr0, ht⟩ := f.rt root hroot
    rw [hr] at hr0; cases hr0
    refine callV_bound (first := []) (bound := [.pointer (some ⟨h.size, 0, none⟩), .pointer (some ⟨h2.size, 0, none⟩), .pointer (some ⟨h4.size, 0, none⟩)]) (ct_Put_1 (e := e) f20.f f20.ok ht (f.srt root) (f.ent root) oke hD (x20.row' r26) (x20.row' r46) (x20.row' r6) (fun hb => by omega) fun r' h' A' f' rc hw a' t => q' r' h' A' f' rc (by omega) a' (.inr t))
end
end Go.Dn.W
