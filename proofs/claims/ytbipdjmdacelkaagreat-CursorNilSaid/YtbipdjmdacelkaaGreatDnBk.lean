/- Forests: Get, Back. -/
import Derived.Test.YtbipdjmdacelkaaGreatDnSk
set_option linter.unusedVariables false
namespace Go.Dn.W
open Go Go.Dn Go.Proofs

def getL (l : List En) (key : ByteArray) : Option En := (seekL l key).filter fun e => sEq e.1 key
def backL (l : List En) (key : ByteArray) : Option En := l.reverse.find? fun e => !sLt key e.1
theorem backL_or (a b : List En) (key : ByteArray) : backL (a ++ b) key = (backL b key).or (backL a key) := by
  unfold backL
  rw [List.reverse_append, List.find?_append]
theorem backL_none {l : List En} {key : ByteArray} (h : ∀ x ∈ l, sLt key x.1 = true) : backL l key = none := List.find?_eq_none.2 fun x hx => by rw [h x (List.mem_reverse.1 hx)]; decide
theorem backL_last {l : List En} {e : En} {key : ByteArray} (h : sLt key e.1 = false) : backL (l ++ [e]) key = some e := by
  unfold backL
  rw [List.reverse_append]
  exact List.find?_cons_of_pos (by rw [h]; rfl)
theorem W1_last : ∀ (sa : List (List En)) (ea : List En) (s : List En) (e : En), sa.length = ea.length → W1 (sa ++ [s]) (ea ++ [e]) = W1 sa ea ++ s ++ [e]
  | [], [], s, e, _ => by simp [W1]
  | t :: sa, f :: ea, s, e, h => by
    show t ++ f :: W1 (sa ++ [s]) (ea ++ [e]) = t ++ f :: W1 sa ea ++ s ++ [e]
    rw [W1_last sa ea s e (by simpa using h)]
    simp
theorem back_W1 {sa : List (List En)} {ea : List En} {key : ByteArray} (h : sa.length = ea.length) (lo : ∀ e ∈ ea, sLt e.1 key = true) : backL (W1 sa ea) key = ea.getLast? := by
  cases he : ea.getLast? with
  | none =>
    have : ea = [] := List.getLast?_eq_none_iff.1 he
    subst this
    cases sa with
    | nil => rfl
    | cons => simp at h
  | some e =>
    obtain ⟨ea', rfl⟩ := List.getLast?_eq_some_iff.1 he
    have hsa : sa ≠ [] := by rintro rfl; simp at h
    obtain ⟨sa', s, rfl⟩ : ∃ sa' s, sa = sa' ++ [s] := ⟨_, _, (List.dropLast_concat_getLast hsa).symm⟩
    rw [W1_last _ _ _ _ (by simpa using h)]
    exact backL_last (sLt_asymm (lo e (by simp)))
theorem back_node {A : Ar} {d : Nat} {es : List En} {kids : List Nat} {l : List En} {key : ByteArray} {n : Nat} {sa sb : List (List En)} {s : List En} (p : Parts A d es kids l n sa s sb) (st : Srt l) (ste : Srt es) (pl : PlE es key n) (hh : hit es key n = false) : backL l key = (backL s key).or (es.take n).getLast? := by
  have st2 : Srt (W2 (es.drop n) sb) := by
    have := st
    rw [p.l] at this
    unfold Srt at this
    rw [List.pairwise_append] at this
    exact this.2.1
  rw [p.l, backL_or, backL_none (above_W2 _ _ p.sbl st2 (hit_false ste pl hh)), backL_or, back_W1 p.sal pl.take]
  rfl
theorem back_leaf {es : List En} {key : ByteArray} {n : Nat} (ste : Srt es) (pl : PlE es key n) (hh : hit es key n = false) : backL es key = (es.take n).getLast? := by
  conv => lhs; rw [← List.take_append_drop n es]
  rw [backL_or, backL_none (hit_false ste pl hh)]
  cases hl : (es.take n).getLast? with
  | none => rw [List.getLast?_eq_none_iff.1 hl]; rfl
  | some e =>
    obtain ⟨ea', h2⟩ := List.getLast?_eq_some_iff.1 hl
    rw [h2]
    exact backL_last (sLt_asymm (pl.take e (by rw [h2]; simp)))
theorem back_hit {l : List En} {key : ByteArray} {e : En} (st : Srt l) (he : e ∈ l) (hk : e.1 = key) : backL l key = some e := by
  obtain ⟨a, b, rfl⟩ := List.append_of_mem he
  have st' := st
  unfold Srt at st'
  rw [List.pairwise_append] at st'
  have h1 : ∀ x ∈ b, sLt key x.1 = true := fun x hx => by rw [← hk]; exact (List.pairwise_cons.1 st'.2.1).1 x hx
  rw [show a ++ e :: b = (a ++ [e]) ++ b by simp, backL_or, backL_none h1, backL_last (by rw [hk]; exact sLt_irrefl _)]
  rfl
theorem last_take {es : List En} {n : Nat} (h0 : 0 < n) (hn : n ≤ es.length) : (es.take n).getLast? = es[n - 1]? := by
  rw [List.getLast?_eq_getElem?, List.length_take, List.getElem?_take, if_pos (by omega)]
  congr 1
  omega
section
variable {h : Mem} {ka kf : Nat} {A : Ar}
theorem one_rf0 : ∀ u ∈ rfcells 0 0 0, u.oneCell' = true := by
  intro u hu
  simp only [rfcells, List.mem_cons, List.not_mem_nil, or_false] at hu
  rcases hu with rfl | rfl | rfl <;> rfl
theorem ct_Get {L : Nat → List En} {root : Nat} {key : ByteArray} {Q : Int → Int → Int → Bool → Mem → Prop} (f : FoIs h kf ka A L) (hroot : root < 16)
    (q : ∀ h', Ext h.size h h' → ∀ e : En, e = (getL (L root) key).getD en0 → Q (e.2.ser : Int) (e.2.pos : Int) (e.2.len : Int) (getL (L root) key).isSome h') :
    CallF PG fn_btree_Forest_Get [.pointer (some ⟨kf, 0, none⟩), .int .i64 (root : Int), .string key] (.tup [.agg [.int .u64, .int .i64, .int .i64], .leaf .bool]) h Q := by
  refine call_btree_Forest_Get (New.go fun h2 _ x2 z2 r2 => ct_Seek (f.ext x2) hroot fun h8 x8 e he => New.go fun h10 _ x10 z10 r10 => ?_)
  refine St.all und_ref rfl (vs := rfv e.2) sz_ref one_rf r10 rfl fun h11 u11 r11 => ?_
  have r111 := u11.row ((x8.after x10).row' r2) (by have := x8.size; omega)
  have x11 : Ext h.size h h11 := x2.after (x8.after (x10.trans (u11.ext (Nat.le_refl _))))
  have none_ : getL (L root) key = none → ∀ {h' : Mem} {r0 : List Value}, h'[h.size]? = some (.cells r0.toArray ty_api_Ref (0, 0)) → r0.length = 3 → Ext h.size h h' → (St PG ty_api_Ref (Addr.mk h.size 0 none) (Value.agg #[Value.int IntKind.u64 0, Value.int IntKind.i64 0, Value.int IntKind.i64 0]) h' fun (h12 : Mem) =>
        Ld PG ty_api_Ref (Addr.mk h.size 0 none) (Kd.one (Cmp.agg [Leaf.int IntKind.u64, Leaf.int IntKind.i64, Leaf.int IntKind.i64])) h12 fun (n13 n14 n15 : Int) => Q n13 n14 n15 false h12) := by
    intro hno h' r0 hr hl x
    refine St.all und_ref rfl (vs := rfv ⟨0, 0, 0⟩) sz_ref one_rf hr (by rw [List.size_toArray, hl]; rfl) fun h12 u12 r12 => Ld.ref (Cells.whole r12) ?_
    have := q h12 (x.trans (u12.ext (Nat.le_refl _))) en0 (by rw [hno]; rfl)
    rw [hno] at this
    exact this
  cases hs : seekL (L root) key with
  | none =>
    have hno : getL (L root) key = none := by unfold getL; rw [hs]; rfl
    exact Br.t rfl (none_ hno (r0 := [.int .u64 0, .int .i64 0, .int .i64 0]) r111 rfl x11)
  | some g =>
    rw [hs] at he
    have he : e = g := he
    subst he
    refine Br.f rfl (Br.mk (fun h1 => ?_) fun h1 => ?_)
    · have h1 : sEq e.1 key = false := by simpa using h1
      have hno : getL (L root) key = none := by unfold getL; rw [hs]; simp [Option.filter, h1]
      exact none_ hno (r0 := [.int .u64 0, .int .i64 0, .int .i64 0]) r111 rfl x11
    · have h1 : sEq e.1 key = true := by simpa using h1
      have hyes : getL (L root) key = some e := by unfold getL; rw [hs]; simp [Option.filter, h1]
      refine Ld.ref (Cells.whole r11) (St.all und_ref rfl (vs := rfv e.2) sz_ref one_rf r111 rfl fun h23 u23 r23 => Ld.ref (Cells.whole r23) ?_)
      have := q h23 (x11.trans (u23.ext (Nat.le_refl _))) e (by rw [hyes]; rfl)
      rw [hyes] at this
      exact this
def BkI (h : Mem) (k1 k3 : Nat) (A : Ar) (tgt : Option En) (key : ByteArray) (n : Int) (h' : Mem) : Prop :=
  Ext h.size h h' ∧ h'[k1]? = some (.cells (rfv ⟨0, 0, 0⟩).toArray ty_api_Ref (0, 0)) ∧ ∃ best : Option En, h'[k3]? = some (.cells (encells (best.getD en0)).toArray ty_api_Entry (0, 0)) ∧
      ((n = 0 ∧ tgt = best) ∨ ∃ (at' lo d : Nat) (l : List En), n = (at' : Int) ∧ Tree A lo d at' l ∧ Srt l ∧ (∀ x ∈ l, x.Ok) ∧ tgt = (backL l key).or best)
theorem ct_Back {L : Nat → List En} {root : Nat} {key : ByteArray} {Q : ByteArray → Int → Int → Int → Bool → Mem → Prop} (f : FoIs h kf ka A L) (hroot : root < 16)
    (q : ∀ h', Ext h.size h h' → ∀ e : En, e = (backL (L root) key).getD en0 → Q e.1 (e.2.ser : Int) (e.2.pos : Int) (e.2.len : Int) (backL (L root) key).isSome h') :
    CallF PG fn_btree_Forest_Back [.pointer (some ⟨kf, 0, none⟩), .int .i64 (root : Int), .string key] (.tup [.leaf .str, .agg [.int .u64, .int .i64, .int .i64], .leaf .bool]) h Q := by
  obtain ⟨r, hr, ht⟩ := f.rt root hroot
  refine call_btree_Forest_Back (New.go fun h2 _ x2 z2 r2 => New.go fun h4 _ x4 z4 r4 => Br.f rfl ?_)
  show Ld _ _ _ _ _ _
  have x04 := x2.after x4
  have f4 := f.ext x04
  have r24 := x4.row' r2
  refine Ld.pa (row_cell f4.f.r rfl) (ct_Root f4.f.a hr ?_)
  have z04 := x04.size
  refine ⟨BkI h h.size h2.size A (backL (L root) key) key, fun n _ => dep A n, ⟨x04, r24, none, r4, ?_⟩, ?_⟩
  · rcases ht with ⟨h1, h2⟩ | ⟨d, t⟩
    · exact .inl ⟨by rw [h1]; rfl, by rw [h2]; rfl⟩
    · exact .inr ⟨r, 1, d, L root, rfl, t, f.srt root, f.ent root, by simp⟩
  rintro _ n h20 ⟨x20, r1, best, r3, hst⟩
  have f20 := f.ext x20
  refine Br.mk (fun hn => ?_) fun hn => ?_
  · obtain ⟨at', lo, d, l, rfl, t, st, okl, hs⟩ := hst.resolve_left fun h1 => by rw [h1.1] at hn; cases hn
    have hdep := t.dep
    obtain ⟨es, kids, his, hlo, h7, nt⟩ := t
    refine ct_load f20.f his (fun x hx => okl x (nt.mem x hx)) (by omega) fun s1 s2 s3 h24 x24 n24 => New.go fun h26 _ x26 z26 r26 => ?_
    refine St.all und_node rfl (vs := ndcells s1 s2 s3) sz_node one_nd r26 rfl fun h27 u27 r27 => ?_
    have x27 : Ext h20.size h20 h27 := x24.after (x26.trans (u27.ext (Nat.le_refl _)))
    have n27 : NdE h27 ka s1 s2 s3 es kids := ((n24.ext x26).updT u27 r26 (by decide) (by decide) (by decide)).nde f20.f.a x27
    have r127 := x27.row' r1
    have r327 := x27.row' r3
    have l1 := n27.k.len
    rw [List.length_map] at l1
    have l3 := n27.p.len
    rw [List.length_map] at l3
    have z20 := x20.size
    have z24 := x24.size
    have hr3lt := row_lt r3
    have x027 := x20.trans (x27.less z20)
    refine ct_find r27 n27.k (nt.srt st) (by omega) fun n pl => ?_
    refine Br.mk (fun hh => ?_) fun hh => ?_
    · obtain ⟨e, he, hke⟩ := hit_true hh
      refine Ld.refs (row_at r27 rfl) (n27.r.get he fun a ha hc => ?_)
      refine Ld.ref hc (St.all und_ref rfl (vs := rfv e.2) sz_ref one_rf r127 rfl fun h36 u36 r36 => Ld.ref (Cells.whole r36) ?_)
      have hyes : backL (L root) key = some e := by
        rw [hs, back_hit st (nt.mem e (List.mem_of_getElem? he)) hke]; rfl
      have := q h36 (x027.trans (u36.ext (Nat.le_refl _))) e (by rw [hyes]; rfl)
      rw [hyes, hke] at this
      exact this
    · have down : ∀ (h40 : Mem) (best' : Option En), Ext h.size h h40 → h40[h.size]? = some (.cells (rfv ⟨0, 0, 0⟩).toArray ty_api_Ref (0, 0)) → h40[h2.size]? = some (.cells (encells (best'.getD en0)).toArray ty_api_Entry (0, 0)) →
        h40[h24.size]? = some (.cells (ndcells s1 s2 s3).toArray ty_btree_node (0, 0)) → Els h40 s3 (kids.map icell) → ((es.take n).getLast?).or best = best' → _ := fun h40 best' x40 r140 r340 rn40 e40 hb =>
      (show (Ld PG ty_sl_int ((Addr.mk h24.size 0 none).add 2) (Kd.one (Cmp.leaf Leaf.sl)) h40 fun (s41 : Sl) => Br (decide ((↑s41.len : Int) > 0))
          (Ld PG ty_sl_int ((Addr.mk h24.size 0 none).add 2) (Kd.one (Cmp.leaf Leaf.sl)) h40 fun (s42 : Sl) => Idx s42.a s42.len (n : Int) fun (p43 : Addr) => Ld PG ty_int (p43.add (((n : Int)).toNat * 1)) (Kd.one (Cmp.leaf (Leaf.int IntKind.i64))) h40 fun (n44 : Int) =>
            BkI h h.size h2.size A (backL (L root) key) key n44 h40 ∧ dep A n44 < dep A (at' : Int))
          (BkI h h.size h2.size A (backL (L root) key) key 0 h40 ∧ dep A 0 < dep A (at' : Int))) from by
        have d0 := dep0 f.ok
        cases d with
        | zero =>
          obtain ⟨rfl, rfl⟩ := nt
          have fin : backL (L root) key = best' := by rw [hs, back_leaf st pl hh, hb]
          refine Ld.ints (row_at rn40 rfl) (Br.f (by simp; omega) ?_)
          exact ⟨⟨x40, r140, best', r340, .inl ⟨rfl, fin⟩⟩, by omega⟩
        | succ d =>
          have hkl := nt.1
          obtain ⟨sa, s, sb, p⟩ := nt.parts pl.le
          have hback := back_node p st (nt.srt st) pl hh
          have hsub : ∀ x ∈ s, x ∈ l := fun x hx => by rw [p.l]; simp [hx]
          refine Ld.ints (row_at rn40 rfl) (Br.t (by simp; omega) (Ld.ints (row_at rn40 rfl) ?_))
          obtain ⟨k, hk, tk⟩ := p.kid
          refine e40.get (v := icell k) (by rw [List.getElem?_map, hk]; rfl) fun a ha hc => ?_
          rw [nat_mul, Nat.mul_one]
          refine Ld.i hc ⟨⟨x40, r140, best', r340, .inr ⟨k, 3, d, s, rfl, tk, srt_sub p st, fun x hx => okl x (hsub x hx), ?_⟩⟩, ?_⟩
          · rw [hs, hback, ← hb]
            cases backL s key <;> simp
          · rw [tk.dep]; omega)
      refine Br.mk (fun hpos => ?_) fun hz => ?_
      · have hpos : 0 < n := by simp at hpos; omega
        have hle := pl.le
        obtain ⟨e, he⟩ : ∃ e, es[n - 1]? = some e := ⟨_, List.getElem?_eq_getElem (by omega)⟩
        have e1 : IntKind.i64.wrap ((n : Int) - 1) = ((n - 1 : Nat) : Int) := i64_cast (by omega) (by omega)
        rw [e1]
        refine Ld.strs (row_cell r27 rfl) (n27.k.get (v := ecell e) (by rw [List.getElem?_map, he]; rfl) fun a ha hc => ?_)
        have hc2 : cellAt h27 (a.add (((n - 1 : Nat) : Int).toNat * 1)) = some (ecell e) := by rw [nat_mul, Nat.mul_one]; exact hc
        refine Ld.str hc2 (Ld.refs (row_at r27 rfl) (n27.r.get he fun a ha hc => Ld.ref hc ?_))
        refine St.all und_en rfl (vs := encells e) sz_en one_en r327 rfl fun h40 u40 r340 => ?_
        refine down h40 (some e) (x027.trans (u40.ext (by omega))) (u40.row r127 (by omega)) r340 (u40.row r27 (by omega)) (n27.p.keep fun a ha => u40.block _ fun e0 => ?_) (by rw [last_take hpos hle, he]; rfl)
        obtain ⟨_, _, c, hc'⟩ := (n24.ext x26).p.blk ha
        have h1 := x24.size
        have := ((n24.ext x26).p.blk ha).1
        omega
      · have hz : n = 0 := by simp at hz; omega
        exact down h27 best x027 r127 r327 r27 n27.p (by rw [hz]; rfl)
  · have hn : n = 0 := by simpa using hn
    subst hn
    have hs : backL (L root) key = best := by
      rcases hst with ⟨_, h1⟩ | ⟨at', lo, d, l, h1, t, _⟩
      · exact h1
      · have h1 : at' = 0 := by omega
        exact absurd h1 (t.ne0 f.ok)
    have z20 := x20.size
    refine Ld.str (row_cell r3 rfl) (Ld.ref (en_ref (Cells.whole r3)) (Ld.str (row_cell r3 rfl) ?_))
    refine St.all und_ref rfl (vs := rfv (best.getD en0).2) sz_ref one_rf r1 rfl fun h54 u54 r54 => ?_
    have r354 := u54.row r3 (by omega)
    refine ⟨Ld.str (row_cell r354 rfl) rfl, Ld.ref (Cells.whole r54) ?_⟩
    have hb : (!sEq (best.getD en0).1 (ByteArray.mk #[])) = (backL (L root) key).isSome := by
      rw [hs]
      cases hbest : best with
      | none => show (!sEq (ByteArray.mk #[]) (ByteArray.mk #[])) = false; rw [sEq_self]; rfl
      | some e =>
        have he : e ∈ L root := by
          have h1 := hs
          rw [hbest] at h1
          exact List.mem_reverse.1 (List.mem_of_find?_eq_some h1)
        have h2 := (f.ent root e he).pos
        show (!sEq e.1 (ByteArray.mk #[])) = true
        rw [sEq_false.2 fun h3 => by rw [h3] at h2; exact absurd h2 (by decide)]
        rfl
    rw [hb]
    exact q h54 (x20.trans (u54.ext (Nat.le_refl _))) (best.getD en0) (by rw [hs])
end
end Go.Dn.W
