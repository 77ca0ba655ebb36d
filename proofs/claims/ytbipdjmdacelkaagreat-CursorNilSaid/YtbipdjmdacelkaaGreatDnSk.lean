/- Forests: Seek, Get. -/
import Derived.Test.YtbipdjmdacelkaaGreatDnPx
set_option linter.unusedVariables false
namespace Go.Dn.W
open Go Go.Dn Go.Proofs

/-! ### how deep a place is -/
theorem IsObj.ptrs_eq {A : Ar} {at' : Nat} {o o' : Obj'} (x : IsObj A at' o) (y : IsObj A at' o') : o.ptrs = o'.ptrs := by
  have e := x.head.symm.trans y.head
  have e := Option.some.inj e
  have e1 := congrArg (fun v => v / 16 % 256) e
  simp only [head_ptrs x.kind x.ptrs, head_ptrs y.kind y.ptrs] at e1
  have hc := x.cut.symm.trans y.cut
  simp only [List.cons_append, List.cons.injEq, List.append_assoc] at hc
  have h1 := congrArg (List.take o.ptrs.length) hc.2
  rw [List.take_left] at h1
  rw [e1, List.take_left] at h1
  exact h1
theorem NodeT.uniq {A : Ar} : ∀ {d d' : Nat} {es es' : List En} {kids : List Nat} {l l' : List En}, NodeT A d es kids l → NodeT A d' es' kids l' → d = d'
  | 0, 0, _, _, _, _, _, _, _ => rfl
  | 0, d' + 1, es, es', kids, l, l', h, h' => by
    have h1 := h.1
    have h2 := h'.1
    rw [h1] at h2; simp at h2
  | d + 1, 0, es, es', kids, l, l', h, h' => by
    have h1 := h'.1
    have h2 := h.1
    rw [h1] at h2; simp at h2
  | d + 1, d' + 1, es, es', kids, l, l', ⟨h1, subs, h2, h3, _⟩, ⟨g1, subs', g2, g3, _⟩ => by
    obtain ⟨k, hk⟩ : ∃ k, kids[0]? = some k := ⟨_, List.getElem?_eq_getElem (by omega)⟩
    obtain ⟨s, hs⟩ : ∃ s, subs[0]? = some s := ⟨_, List.getElem?_eq_getElem (by omega)⟩
    obtain ⟨s', hs'⟩ : ∃ s, subs'[0]? = some s := ⟨_, List.getElem?_eq_getElem (by omega)⟩
    obtain ⟨es1, kids1, a1, _, _, a4⟩ := h3 0 k s hk hs
    obtain ⟨es2, kids2, b1, _, _, b4⟩ := g3 0 k s' hk hs'
    have e : kids1 = kids2 := a1.ptrs_eq b1
    subst e
    have := NodeT.uniq a4 b4
    omega
theorem Tree.uniq {A : Ar} {lo lo' d d' at' : Nat} {l l' : List En} (t : Tree A lo d at' l) (t' : Tree A lo' d' at' l') : d = d' := by
  obtain ⟨es, kids, a1, _, _, a4⟩ := t
  obtain ⟨es', kids', b1, _, _, b4⟩ := t'
  have e : kids = kids' := a1.ptrs_eq b1
  subst e
  exact a4.uniq b4
open Classical in
noncomputable def dep (A : Ar) (n : Int) : Nat := if h : ∃ d lo l, Tree A lo d n.toNat l then Classical.choose h + 1 else 0
theorem Tree.dep {A : Ar} {lo d at' : Nat} {l : List En} (t : Tree A lo d at' l) : W.dep A (at' : Int) = d + 1 := by
  have h : ∃ d lo l, Tree A lo d ((at' : Nat) : Int).toNat l := ⟨d, lo, l, by rw [Int.toNat_natCast]; exact t⟩
  unfold W.dep
  rw [dif_pos h]
  obtain ⟨lo', l', t'⟩ := Classical.choose_spec h
  have t2 : Tree A lo d ((at' : Nat) : Int).toNat l := by rw [Int.toNat_natCast]; exact t
  rw [t'.uniq t2]
theorem dep0 {A : Ar} (a : ArOk A) : dep A 0 = 0 := by
  unfold dep
  rw [dif_neg]
  rintro ⟨d, lo, l, t⟩
  exact t.ne0 a rfl

/-! ### the least one that is a text or above -/
def seekL (l : List En) (key : ByteArray) : Option En := l.find? fun e => !sLt e.1 key
theorem seekL_app {a b : List En} {key : ByteArray} (h : ∀ x ∈ a, sLt x.1 key = true) : seekL (a ++ b) key = seekL b key := by
  unfold seekL
  rw [List.find?_append, List.find?_eq_none.2 fun x hx => by rw [h x hx]; decide]
  rfl
theorem seekL_hd {e : En} {l : List En} {key : ByteArray} (h : sLt e.1 key = false) : seekL (e :: l) key = some e := by
  unfold seekL
  rw [List.find?_cons_of_pos (by rw [h]; rfl)]
theorem seekL_or (a b : List En) (key : ByteArray) : seekL (a ++ b) key = (seekL a key).or (seekL b key) := by
  unfold seekL
  rw [List.find?_append]
theorem seekL_none {l : List En} {key : ByteArray} (h : ∀ x ∈ l, sLt x.1 key = true) : seekL l key = none := List.find?_eq_none.2 fun x hx => by rw [h x hx]; decide
theorem PlE.dropHd {es : List En} {key : ByteArray} {n : Nat} {e : En} (he : es[n]? = some e) : es.drop n = e :: es.drop (n + 1) := by
  have hi := (List.getElem?_eq_some_iff.1 he).1
  have h2 := List.drop_eq_getElem_cons hi
  rw [List.getElem?_eq_getElem hi] at he
  rw [Option.some.inj he] at h2
  exact h2
/-- of a leaf -/
theorem seek_leaf {es : List En} {key : ByteArray} {n : Nat} (pl : PlE es key n) : seekL es key = es[n]? := by
  conv => lhs; rw [← List.take_append_drop n es]
  rw [seekL_app pl.take]
  cases he : es[n]? with
  | none =>
    have : es.length ≤ n := by
      rcases Nat.lt_or_ge n es.length with h1 | h1
      · rw [List.getElem?_eq_getElem h1] at he; cases he
      · exact h1
    rw [List.drop_eq_nil_of_le this]; rfl
  | some e =>
    rw [PlE.dropHd (key := key) he, seekL_hd (pl.hi n e (Nat.le_refl _) he)]
/-- of a node: below the place, or the entry at it -/
theorem seek_node {A : Ar} {d : Nat} {es : List En} {kids : List Nat} {l : List En} {key : ByteArray} {n : Nat} {sa sb : List (List En)} {s : List En} (p : Parts A d es kids l n sa s sb) (st : Srt l) (pl : PlE es key n) : seekL l key = (seekL s key).or es[n]? := by
  have st1 : Srt (W1 sa (es.take n)) := by
    have := st
    rw [p.l, List.append_assoc] at this
    unfold Srt at this
    rw [List.pairwise_append] at this
    exact this.1
  rw [p.l, List.append_assoc, seekL_app (below_W1 _ _ p.sal st1 pl.take), seekL_or]
  congr 1
  cases he : es[n]? with
  | none =>
    have : es.length ≤ n := by
      rcases Nat.lt_or_ge n es.length with h1 | h1
      · rw [List.getElem?_eq_getElem h1] at he; cases he
      · exact h1
    have h2 : es.drop n = [] := List.drop_eq_nil_of_le this
    rw [h2]; rfl
  | some e =>
    have hsb := p.sbl
    rw [PlE.dropHd (key := key) he] at hsb ⊢
    cases sb with
    | nil => simp at hsb
    | cons t sb => exact seekL_hd (pl.hi n e (Nat.le_refl _) he)
theorem seek_hit {A : Ar} {d : Nat} {es : List En} {kids : List Nat} {l : List En} {key : ByteArray} {n : Nat} {sa sb : List (List En)} {s : List En} (p : Parts A d es kids l n sa s sb) (st : Srt l) {e : En} (he : es[n]? = some e) (hk : e.1 = key) : seekL s key = none := by
  have hsb := p.sbl
  have hl := p.l
  rw [PlE.dropHd (key := key) he] at hsb hl
  cases sb with
  | nil => simp at hsb
  | cons t sb =>
    refine seekL_none fun x hx => ?_
    rw [hl] at st
    unfold Srt at st
    rw [List.pairwise_append] at st
    rw [← hk]
    exact st.2.2 x (by simp [hx]) e (by simp [W2])

def encells (e : En) : List Value := [.string e.1, .int .u64 (e.2.ser : Int), .int .i64 (e.2.pos : Int), .int .i64 (e.2.len : Int)]
theorem und_en : ∃ d, PG.underlying ty_api_Entry = some d := Option.isSome_iff_exists.1 (by kernel_rfl)
theorem agg_en : isAggB PG ty_api_Entry = true := by kernel_rfl
theorem sz_en : szOf PG ty_api_Entry = 4 := by kernel_rfl
theorem one_en {e : En} : ∀ u ∈ encells e, u.oneCell' = true := by
  intro u hu
  simp only [encells, List.mem_cons, List.not_mem_nil, or_false] at hu
  rcases hu with rfl | rfl | rfl | rfl <;> rfl
section
variable {h : Mem} {ka kf : Nat} {A : Ar}
theorem Ld.en {a : Addr} {e : En} {K : ByteArray → Int → Int → Int → Prop} (hc : Cells h a (encells e)) (hk : K e.1 (e.2.ser : Int) (e.2.pos : Int) (e.2.len : Int)) : Ld PG ty_api_Entry a (.one (.agg [.str, .int .u64, .int .i64, .int .i64])) h K := by
  obtain ⟨t, hd⟩ := und_en
  exact Ld.agg hd agg_en sz_en rfl hc ⟨_, .str _, _, .int _ _, _, .int _ _, _, .int _ _, hk⟩
theorem en_ref {a : Addr} {e : En} (hc : Cells h a (encells e)) : Cells h (a.add 1) (rfv e.2) := fun i v hv => by
  rw [add_add', Nat.add_comm]
  match i, hv with
  | 0, hv => exact hc 1 v hv
  | 1, hv => exact hc 2 v hv
  | 2, hv => exact hc 3 v hv
theorem srt_sub {A : Ar} {d : Nat} {es : List En} {kids : List Nat} {l : List En} {n : Nat} {sa sb : List (List En)} {s : List En} (p : Parts A d es kids l n sa s sb) (st : Srt l) : Srt s := by
  have := st
  rw [p.l] at this
  unfold Srt at this
  rw [List.append_assoc, List.pairwise_append, List.pairwise_append] at this
  exact this.2.1.1
def SkI (h : Mem) (k1 k3 : Nat) (A : Ar) (tgt : Option En) (key : ByteArray) (n : Int) (h' : Mem) : Prop :=
  Ext h.size h h' ∧ h'[k1]? = some (.cells (rfv ⟨0, 0, 0⟩).toArray ty_api_Ref (0, 0)) ∧ ∃ best : Option En, h'[k3]? = some (.cells (encells (best.getD en0)).toArray ty_api_Entry (0, 0)) ∧
      ((n = 0 ∧ tgt = best) ∨ ∃ (at' lo d : Nat) (l : List En), n = (at' : Int) ∧ Tree A lo d at' l ∧ Srt l ∧ (∀ x ∈ l, x.Ok) ∧ tgt = (seekL l key).or best)
theorem ct_Seek {L : Nat → List En} {root : Nat} {key : ByteArray} {Q : ByteArray → Int → Int → Int → Bool → Mem → Prop} (f : FoIs h kf ka A L) (hroot : root < 16)
    (q : ∀ h', Ext h.size h h' → ∀ e : En, e = (seekL (L root) key).getD en0 → Q e.1 (e.2.ser : Int) (e.2.pos : Int) (e.2.len : Int) (seekL (L root) key).isSome h') :
    CallF PG fn_btree_Forest_Seek [.pointer (some ⟨kf, 0, none⟩), .int .i64 (root : Int), .string key] (.tup [.leaf .str, .agg [.int .u64, .int .i64, .int .i64], .leaf .bool]) h Q := by
  obtain ⟨r, hr, ht⟩ := f.rt root hroot
  refine call_btree_Forest_Seek (New.go fun h2 _ x2 z2 r2 => New.go fun h4 _ x4 z4 r4 => Br.f rfl ?_)
  show Ld _ _ _ _ _ _
  have x04 := x2.after x4
  have f4 := f.ext x04
  have r24 := x4.row' r2
  refine Ld.pa (row_cell f4.f.r rfl) (ct_Root f4.f.a hr ?_)
  have z04 := x04.size
  refine ⟨SkI h h.size h2.size A (seekL (L root) key) key, fun n _ => dep A n, ⟨x04, r24, none, r4, ?_⟩, ?_⟩
  · rcases ht with ⟨h1, h2⟩ | ⟨d, t⟩
    · exact .inl ⟨by rw [h1]; rfl, by rw [h2]; rfl⟩
    · exact .inr ⟨r, 1, d, L root, rfl, t, f.srt root, f.ent root, by simp⟩
  rintro _ n h20 ⟨x20, r1, best, r3, hst⟩
  have f20 := f.ext x20
  refine Br.mk (fun hn => ?_) fun hn => ?_
  · obtain ⟨at', lo, d, l, rfl, t, st, okl, hs⟩ := hst.resolve_left fun h1 => by rw [h1.1] at hn; cases hn
    have hdep := t.dep
    obtain ⟨es, kids, his, hlo, h7, nt⟩ := t
    refine ct_load f20.f his (fun x hx => okl x (nt.mem x hx)) (by omega) fun s1 s2 s3 h24 x24 n24 => New.go fun h26 _ x26 z26 r26 => ?_
    refine St.all und_node rfl (vs := ndcells s1 s2 s3) sz_node one_nd r26 rfl fun h27 u27 r27 => ?_
    have x27 : Ext h20.size h20 h27 := x24.after (x26.trans (u27.ext (Nat.le_refl _)))
    have n27 : NdE h27 ka s1 s2 s3 es kids := ((n24.ext x26).updT u27 r26 (by decide) (by decide) (by decide)).nde f20.f.a x27
    have r127 := x27.row' r1
    have r327 := x27.row' r3
    have l1 := n27.k.len
    rw [List.length_map] at l1
    have l3 := n27.p.len
    rw [List.length_map] at l3
    have z20 := x20.size
    have z24 := x24.size
    have hr3lt := row_lt r3
    have x027 := x20.after (x27) |> fun _ => x20.trans (x27.less z20)
    refine ct_find r27 n27.k (nt.srt st) (by omega) fun n pl => ?_
    refine Ld.strs (row_cell r27 rfl) ?_
    -- the way down
    have down : ∀ (h40 : Mem) (best' : Option En), Ext h.size h h40 → h40[h.size]? = some (.cells (rfv ⟨0, 0, 0⟩).toArray ty_api_Ref (0, 0)) → h40[h2.size]? = some (.cells (encells (best'.getD en0)).toArray ty_api_Entry (0, 0)) →
        h40[h24.size]? = some (.cells (ndcells s1 s2 s3).toArray ty_btree_node (0, 0)) → Els h40 s3 (kids.map icell) → (es[n]?).or best = best' → _ := fun h40 best' x40 r140 r340 rn40 e40 hb =>
      (show Br (!hit es key n) (Ld PG ty_sl_int ((Addr.mk h24.size 0 none).add 2) (Kd.one (Cmp.leaf Leaf.sl)) h40 fun (s41 : Sl) => Br (decide ((↑s41.len : Int) > 0))
          (Ld PG ty_sl_int ((Addr.mk h24.size 0 none).add 2) (Kd.one (Cmp.leaf Leaf.sl)) h40 fun (s42 : Sl) => Idx s42.a s42.len (n : Int) fun (p43 : Addr) => Ld PG ty_int (p43.add (((n : Int)).toNat * 1)) (Kd.one (Cmp.leaf (Leaf.int IntKind.i64))) h40 fun (n44 : Int) =>
            SkI h h.size h2.size A (seekL (L root) key) key n44 h40 ∧ dep A n44 < dep A (at' : Int))
          (SkI h h.size h2.size A (seekL (L root) key) key 0 h40 ∧ dep A 0 < dep A (at' : Int)))
          (SkI h h.size h2.size A (seekL (L root) key) key 0 h40 ∧ dep A 0 < dep A (at' : Int)) from by
        have d0 := dep0 f.ok
        cases d with
        | zero =>
          obtain ⟨rfl, rfl⟩ := nt
          have fin : seekL (L root) key = best' := by rw [hs, seek_leaf pl, hb]
          refine Br.mk (fun _ => Ld.ints (row_at rn40 rfl) (Br.f (by simp; omega) ?_)) fun _ => ?_
          all_goals exact ⟨⟨x40, r140, best', r340, .inl ⟨rfl, fin⟩⟩, by omega⟩
        | succ d =>
          have hkl := nt.1
          obtain ⟨sa, s, sb, p⟩ := nt.parts pl.le
          have hseek := seek_node p st pl
          have hsub : ∀ x ∈ s, x ∈ l := fun x hx => by rw [p.l]; simp [hx]
          refine Br.mk (fun hh => ?_) fun hh => ?_
          · refine Ld.ints (row_at rn40 rfl) (Br.t (by simp; omega) (Ld.ints (row_at rn40 rfl) ?_))
            obtain ⟨k, hk, tk⟩ := p.kid
            refine e40.get (v := icell k) (by rw [List.getElem?_map, hk]; rfl) fun a ha hc => ?_
            rw [nat_mul, Nat.mul_one]
            refine Ld.i hc ⟨⟨x40, r140, best', r340, .inr ⟨k, 3, d, s, rfl, tk, srt_sub p st, fun x hx => okl x (hsub x hx), ?_⟩⟩, ?_⟩
            · rw [hs, hseek, ← hb]
              cases seekL s key <;> simp
            · rw [tk.dep]; omega
          · have hh : hit es key n = true := by simpa using hh
            obtain ⟨e, he, hke⟩ := hit_true hh
            have hno := seek_hit p st he hke
            exact ⟨⟨x40, r140, best', r340, .inl ⟨rfl, by rw [hs, hseek, hno, ← hb]; simp⟩⟩, by omega⟩)
    refine Br.mk (fun hlt => ?_) fun hge => ?_
    · have hlt : n < es.length := by simp at hlt; omega
      obtain ⟨e, he⟩ : ∃ e, es[n]? = some e := ⟨_, List.getElem?_eq_getElem hlt⟩
      refine Ld.strs (row_cell r27 rfl) (n27.k.get (v := ecell e) (by rw [List.getElem?_map, he]; rfl) fun a ha hc => ?_)
      have hc2 : cellAt h27 (a.add ((n : Int).toNat * 1)) = some (ecell e) := by rw [nat_mul, Nat.mul_one]; exact hc
      refine Ld.str hc2 (Ld.refs (row_at r27 rfl) (n27.r.get he fun a ha hc => Ld.ref hc ?_))
      refine St.all und_en rfl (vs := encells e) sz_en one_en r327 rfl fun h40 u40 r340 => ?_
      refine down h40 (some e) (x027.trans (u40.ext (by omega))) (u40.row r127 (by omega)) r340 (u40.row r27 (by omega)) (n27.p.keep fun a ha => u40.block _ fun e0 => ?_) (by rw [he]; rfl)
      obtain ⟨_, _, c, hc'⟩ := (n24.ext x26).p.blk ha
      have h1 := x24.size
      have := ((n24.ext x26).p.blk ha).1
      omega
    · have hge : es.length ≤ n := by simp at hge; omega
      exact down h27 best x027 r127 r327 r27 n27.p (by rw [List.getElem?_eq_none hge]; rfl)
  · have hn : n = 0 := by simpa using hn
    subst hn
    have hs : seekL (L root) key = best := by
      rcases hst with ⟨_, h1⟩ | ⟨at', lo, d, l, h1, t, _⟩
      · exact h1
      · have h1 : at' = 0 := by omega
        exact absurd h1 (t.ne0 f.ok)
    have z20 := x20.size
    refine Ld.str (row_cell r3 rfl) (Ld.ref (en_ref (Cells.whole r3)) (Ld.str (row_cell r3 rfl) ?_))
    refine St.all und_ref rfl (vs := rfv (best.getD en0).2) sz_ref one_rf r1 rfl fun h54 u54 r54 => ?_
    have r354 := u54.row r3 (by omega)
    refine ⟨Ld.str (row_cell r354 rfl) rfl, Ld.ref (Cells.whole r54) ?_⟩
    have hb : (!sEq (best.getD en0).1 (ByteArray.mk #[])) = (seekL (L root) key).isSome := by
      rw [hs]
      cases hbest : best with
      | none => show (!sEq (ByteArray.mk #[]) (ByteArray.mk #[])) = false; rw [sEq_self]; rfl
      | some e =>
        have he : e ∈ L root := by
          have h1 := hs
          rw [hbest] at h1
          exact List.mem_of_find?_eq_some h1
        have h2 := (f.ent root e he).pos
        show (!sEq e.1 (ByteArray.mk #[])) = true
        rw [sEq_false.2 fun h3 => by rw [h3] at h2; exact absurd h2 (by decide)]
        rfl
    rw [hb]
    exact q h54 (x20.trans (u54.ext (Nat.le_refl _))) (best.getD en0) (by rw [hs])
end
end Go.Dn.W
