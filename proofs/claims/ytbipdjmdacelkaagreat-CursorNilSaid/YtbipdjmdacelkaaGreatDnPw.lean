/- Forests: put, the whole. -/
import Derived.Test.YtbipdjmdacelkaaGreatDnPv
set_option linter.unusedVariables false
namespace Go.Dn.W
open Go Go.Dn Go.Proofs
theorem and_id {P : Prop} (h : P ∧ True) : P := h.1
def at_node (A : Ar) (lo d at' : Nat) (l : List En) (es : List En) (kids : List Nat) : Prop :=
  NodeT A d es kids l ∧ es.length ≤ 7 ∧ (lo ≤ es.length ∨ (lo ≤ 1 ∧ es = [])) ∧ ((at' = 0 ∧ es = [] ∧ kids = []) ∨ (at' ≠ 0 ∧ IsObj A at' (ndObj es kids)))
theorem at_node_of {A : Ar} {lo d at' : Nat} {l : List En} (a : ArOk A) (t : (at' = 0 ∧ d = 0 ∧ l = [] ∧ lo ≤ 1) ∨ Tree A lo d at' l) : ∃ es kids, at_node A lo d at' l es kids := by
  rcases t with ⟨rfl, rfl, rfl, hlo⟩ | t
  · exact ⟨[], [], ⟨rfl, rfl⟩, by simp, .inr ⟨hlo, rfl⟩, .inl ⟨rfl, rfl, rfl⟩⟩
  · have h0 := t.ne0 a
    obtain ⟨es, kids, a1, a2, a3, a4⟩ := t
    exact ⟨es, kids, a4, a3, .inl a2, .inr ⟨h0, a1⟩⟩
section
variable {h : Mem} {ka : Nat} {A : Ar} {s1 s2 s3 : Sl} {es : List En} {kids : List Nat} {h0 : Mem} {kf k1 k3 k5 B : Nat} {r : Rf}
theorem PL.updH {h' : Mem} {j : Nat} {c : Array Value} {fz : Nat × Nat} (p : PL h0 h kf ka k1 k3 k5 B A r s1 s2 s3 es kids) (rj : h[j]? = some (.cells c ty_btree_halves fz)) (hj : B ≤ j) (u : Upd j h h') : PL h0 h' kf ka k1 k3 k5 B A r s1 s2 s3 es kids := by
  have ks := p.ks
  have sj := safeT p.f.a rj (by decide) (by decide) (by decide)
  have frm : ∀ i, InAr h ka i → h'[i]? = h[i]? := fun i hi => u.block i fun e => sj.2 (e ▸ hi)
  have hka : h'[ka]? = h[ka]? := frm ka (.inl rfl)
  exact ⟨⟨u.row p.f.r (by omega), p.f.a.frame frm⟩, p.ax.trans (ArX.frame (Nat.le_of_eq u.size.symm) frm fun i hi _ => u.block i (by omega)), u.row p.r1 (by omega), u.row p.r3 (by omega), u.row p.r5 (by omega), p.nd.updT u rj (by decide) (by decide) (by decide), fun b hb => ⟨by rw [u.size]; exact (p.f3 b hb).1, fun hin => (p.f3 b hb).2 (inAr_of hka hin)⟩, by rw [u.size]; omega⟩
theorem put_begin {at' : Nat} {BODY : Nat → Nat → Nat → Mem → Prop} (f : FoAt h kf ka A) (hat : (at' = 0 ∧ es = [] ∧ kids = []) ∨ (at' ≠ 0 ∧ IsObj A at' (ndObj es kids))) (ok : ∀ e ∈ es, e.Ok) (hn : es.length ≤ 1000)
    (hb : ∀ k1 k3 k5 B h9 s1 s2 s3, PL h h9 kf ka k1 k3 k5 B A r s1 s2 s3 es kids → BODY k1 k3 k5 h9) :
    New (Obj.cells #[Value.int IntKind.u64 (r.ser : Int), Value.int IntKind.i64 (r.pos : Int), Value.int IntKind.i64 (r.len : Int)] ty_api_Ref) h fun (k1 : Nat) (h2 : Mem) =>
      New (Obj.cells #[Value.int IntKind.i64 0, Value.int IntKind.i64 0, Value.string (ByteArray.mk #[]), Value.int IntKind.u64 0, Value.int IntKind.i64 0, Value.int IntKind.i64 0] 122) h2 fun (k3 : Nat) (h4 : Mem) =>
        New (Obj.cells #[Value.slice none 0 0, Value.slice none 0 0, Value.slice none 0 0] ty_btree_node) h4 fun (k5 : Nat) (h6 : Mem) =>
          ∃ (I7 : Mem → Prop), (∀ (j8 : Fr) (h9 : Mem), I7 h9 → BODY k1 k3 k5 h9) ∧
            Br ((at' : Int) != 0)
              (CallF PG fn_btree_Forest_load [Value.pointer (some ⟨kf, 0, none⟩), Value.int IntKind.i64 (at' : Int)] (Kd.one (Cmp.agg [Leaf.sl, Leaf.sl, Leaf.sl])) h6 fun (s112 s113 s114 : Sl) (h115 : Mem) =>
                St PG ty_btree_node (Addr.mk k5 0 none) (Value.agg #[Value.slice s112.a s112.len s112.cap, Value.slice s113.a s113.len s113.cap, Value.slice s114.a s114.len s114.cap]) h115 fun (h116 : Mem) => I7 h116)
              (I7 h6) := by
  have hkf := row_lt f.r
  refine New.go fun h2 _ x2 z2 r2 => New.go fun h4 _ x4 z4 r4 => New.go fun h6 _ x6 z6 r6 => ?_
  have x06 := x2.after (x4.after x6)
  have f6 := f.ext x06
  have r26 := x6.row' (x4.row' r2)
  have r46 := x6.row' r4
  refine ⟨fun h9 => ∃ s1 s2 s3, PL h h9 kf ka h.size h2.size h4.size h6.size A r s1 s2 s3 es kids, fun _ h9 ⟨s1, s2, s3, p⟩ => hb _ _ _ _ h9 s1 s2 s3 p, Br.mk (fun h1 => ?_) fun h1 => ?_⟩
  · have h1 : at' ≠ 0 := by simp at h1; omega
    obtain ⟨_, is⟩ := hat.resolve_left fun h2 => h1 h2.1
    refine ct_load f6 is ok hn fun s1 s2 s3 h115 x115 n115 => ?_
    have r615 := x115.row' r6
    refine St.all und_node rfl (vs := ndcells s1 s2 s3) sz_node one_nd r615 rfl fun h116 u116 r116 => ⟨s1, s2, s3, ?_⟩
    have f115 := f6.ext x115
    have s4 : Safe h115 ka h4.size := safeT f115.a r615 (by decide) (by decide) (by decide)
    obtain ⟨f116, a116⟩ := f115.upd s4 (m := h.size) (by omega) (by omega) u116
    have n116 := n115.updT u116 r615 (by decide) (by decide) (by decide)
    have x115' := x06.after x115
    have nde := n115.nde f6.a x115
    have z115 := x115.size
    exact ⟨f116, (f.a.arx x115').trans a116, u116.row (x115.row' r26) (by omega), u116.row (x115.row' r46) (by omega), r116, n116, fun a ha => Safe.upd (nde.f3 a ha) s4 u116, by have := u116.size; omega⟩
  · have h1 : at' = 0 := by simp at h1; omega
    obtain ⟨_, rfl, rfl⟩ := hat.resolve_right fun h2 => h2.1 h1
    exact ⟨⟨none, 0, 0⟩, ⟨none, 0, 0⟩, ⟨none, 0, 0⟩, f6, f.a.arx x06, r26, r46, r6, ⟨Owns.nil _ _ _ _, Owns.nil _ _ _ _, Owns.nil _ _ _ _⟩, fun a ha => (by cases ha), by omega⟩
end
theorem ct_put : ∀ (d : Nat) {h : Mem} {ka kf at' lo : Nat} {A : Ar} {l : List En} {e : En} {Q : Int → Int → ByteArray → Int → Int → Int → Int → Mem → Prop}, FoAt h kf ka A → ArOk A → ((at' = 0 ∧ d = 0 ∧ l = [] ∧ lo ≤ 1) ∨ Tree A lo d at' l) → Srt l → (∀ x ∈ l, x.Ok) → e.Ok →
    (A.most < A.w.length + 180 * (d + 1) → ∀ l r k a b c h' A', FoAt h' kf ka A' → Reach A A' → ArX ka h.size h h' → Q l r k a b c 3 h') →
    (∀ (lf rg : Nat) m h' A', FoAt h' kf ka A' → Reach A A' → A'.w.length ≤ A.w.length + 180 * (d + 1) → ArX ka h.size h h' → PutIs A' lo d lf rg m (insL l e) → A.w.length ≤ lf → Q (lf : Int) (rg : Int) m.1 (m.2.ser : Int) (m.2.pos : Int) (m.2.len : Int) 0 h') →
    CallF PG fn_btree_Forest_put [.pointer (some ⟨kf, 0, none⟩), .int .i64 (at' : Int), .string e.1, .agg #[.int .u64 (e.2.ser : Int), .int .i64 (e.2.pos : Int), .int .i64 (e.2.len : Int)]] (.tup [.agg [.int .i64, .int .i64, .str, .int .u64, .int .i64, .int .i64], .leaf (.int .i64)]) h Q := by
  intro d
  induction d with
  | zero =>
    intro h ka kf at' lo A l e Q f aok t st okl oke q1 q2
    obtain ⟨es, kids, nt, hes, hlo, hat⟩ := at_node_of aok t
    have okL : ∀ x ∈ insL l e, x.Ok := fun x hx => by
      rcases mem_insL hx with rfl | h1
      · exact oke
      · exact okl x h1
    obtain ⟨rfl, rfl⟩ := nt
    refine call_btree_Forest_put (put_begin f hat okl (by omega) fun k1 k3 k5 B h9 s1 s2 s3 p => ?_)
    have n9 := p.nde
    refine ct_find p.r5 n9.k st (by omega) fun n pl => ?_
    refine ⟨fun h15 => ∃ s1 s2 s3, PL h h15 kf ka k1 k3 k5 B A e.2 s1 s2 s3 (insL l e) [] ∧ lo ≤ (insL l e).length ∧ (insL l e).length ≤ 8, ?_, ?_⟩
    · rintro _ h15 ⟨s1, s2, s3, p', hlo', h8⟩
      exact put_end p' (.refl A) aok.pos (by omega) (d := 0) ⟨rfl, rfl⟩ okL hlo' h8 q1 q2
    · refine Br.mk (fun hh => ?_) fun hh => ?_
      · obtain ⟨f1, hf1, hk1⟩ := hit_true hh
        have hn1 := (List.getElem?_eq_some_iff.1 hf1).1
        refine Ld.refs (row_at p.r5 rfl) (Ld.ref (Cells.whole p.r1) (n9.r.get hf1 fun a ha hc => ?_))
        rw [nat_mul]
        refine p.setRef (key := e.1) hn1 (fun g hg => by rw [hf1] at hg; cases hg; exact hk1) ha fun h' p' => ?_
        have e1 : insL l e = l.set n e := ((NodeT.hit (A := A) (d := 0) (kids := []) ⟨rfl, rfl⟩ st pl hh).2)
        refine ⟨s1, s2, s3, by rw [e1]; exact p', ?_, ?_⟩
        · rw [e1, List.length_set]
          rcases hlo with h1 | ⟨_, h1⟩
          · exact h1
          · rw [h1] at hn1; simp at hn1
        · rw [e1, List.length_set]; omega
      · have l3 := n9.p.len
        refine Ld.ints (row_at p.r5 rfl) (Br.t (by rw [l3]; rfl) ?_)
        have e1 : insL l e = insE l n e := by
          have := insL_new (a := l.take n) (c := l.drop n) (e := e) pl.take (hit_false st pl hh)
          rw [List.take_append_drop] at this
          exact this
        refine Ld.ref (Cells.whole p.r1) (p.insert (m := e) pl.le (by omega) fun s1' s2' h70 p70 _ frm => ⟨s1', s2', s3, by rw [e1]; exact p70, ?_, ?_⟩)
        · rw [e1, insE_len _ _ _ pl.le]
          rcases hlo with h1 | ⟨h1, _⟩ <;> omega
        · rw [e1, insE_len _ _ _ pl.le]; omega
  | succ d ih =>
    intro h ka kf at' lo A l e Q f aok t st okl oke q1 q2
    have t : Tree A lo (d + 1) at' l := t.resolve_left fun h1 => by have := h1.2.1; omega
    have hat0 := t.ne0 aok
    obtain ⟨es, kids, his, hlo, hes, nt⟩ := t
    have okL : ∀ x ∈ insL l e, x.Ok := fun x hx => by
      rcases mem_insL hx with rfl | h1
      · exact oke
      · exact okl x h1
    refine call_btree_Forest_put (put_begin f (.inr ⟨hat0, his⟩) (fun x hx => okl x (nt.mem x hx)) (by omega) fun k1 k3 k5 B h9 s1 s2 s3 p => ?_)
    refine and_id ⟨?_, trivial⟩
    · have n9 := p.nde
      refine ct_find p.r5 n9.k (nt.srt st) (by omega) fun n pl => ?_
      refine ⟨fun h15 => ∃ A' s1 s2 s3 es' kids', PL h h15 kf ka k1 k3 k5 B A' e.2 s1 s2 s3 es' kids' ∧ Reach A A' ∧ A'.w.length ≤ A.w.length + 180 * (d + 1) ∧ NodeT A' (d + 1) es' kids' (insL l e) ∧ lo ≤ es'.length ∧ es'.length ≤ 8, ?_, ?_⟩
      · rintro _ h15 ⟨A', s1, s2, s3, es', kids', p', rc, hw, nt', hlo', h8⟩
        exact put_end p' rc aok.pos hw nt' okL hlo' h8 q1 q2
      · refine Br.mk (fun hh => ?_) fun hh => ?_
        · obtain ⟨f1, hf1, hk1⟩ := hit_true hh
          have hn1 := (List.getElem?_eq_some_iff.1 hf1).1
          refine Ld.refs (row_at p.r5 rfl) (Ld.ref (Cells.whole p.r1) (n9.r.get hf1 fun a ha hc => ?_))
          rw [nat_mul]
          refine p.setRef (key := e.1) hn1 (fun g hg => by rw [hf1] at hg; cases hg; exact hk1) ha fun h' p' => ?_
          refine ⟨A, s1, s2, s3, es.set n e, kids, p', .refl A, by omega, nt.hit st pl hh, ?_, by rw [List.length_set]; omega⟩
          rw [List.length_set]
          exact hlo
        · have hkl := nt.1
          have l3 := n9.p.len
          rw [List.length_map] at l3
          refine Ld.ints (row_at p.r5 rfl) (Br.f (by simp; omega) ?_)
          obtain ⟨sa, s, sb, pt⟩ := nt.parts pl.le
          obtain ⟨k, hk, tk⟩ := pt.kid
          have hsub : ∀ x ∈ s, x ∈ l := fun x hx => by rw [pt.l]; simp [hx]
          have b1 : ∀ x ∈ W1 sa (es.take n), sLt x.1 e.1 = true := below_W1 _ _ pt.sal (by have := st; rw [pt.l] at this; unfold Srt at this; rw [List.append_assoc, List.pairwise_append] at this; exact this.1) pl.take
          have b2 : ∀ x ∈ W2 (es.drop n) sb, sLt e.1 x.1 = true := above_W2 _ _ pt.sbl (by have := st; rw [pt.l] at this; unfold Srt at this; rw [List.pairwise_append] at this; exact this.2.1) (hit_false (nt.srt st) pl hh)
          have srt_s : Srt s := by have := st; rw [pt.l] at this; unfold Srt at this; rw [List.append_assoc, List.pairwise_append, List.pairwise_append] at this; exact this.2.1.1
          have hins : insL l e = W1 sa (es.take n) ++ insL s e ++ W2 (es.drop n) sb := by rw [pt.l]; exact insL_mid b1 b2
          have hkn := (List.getElem?_eq_some_iff.1 hk).1
          refine ⟨fun q47 n48 h49 => ∃ (k93 : Nat) (A' : Ar), q47 = some ⟨k93, 0, none⟩ ∧ B ≤ k93 ∧ PL h h49 kf ka k1 k3 k5 B A' e.2 s1 s2 s3 es kids ∧ Reach A A' ∧
              ((n48 = 3 ∧ A.most < A.w.length + 180 * (d + 1)) ∨ (n48 = 0 ∧ ∃ (lf rg : Nat) (m : En), A'.w.length ≤ A.w.length + 180 * (d + 1) ∧ PutIs A' 3 d lf rg m (insL s e) ∧ h49[k93]? = some (.cells (hcells' (lf : Int) (rg : Int) m.1 (m.2.ser : Int) (m.2.pos : Int) (m.2.len : Int)).toArray ty_btree_halves (0, 0)))), ?_, ?_⟩
          · rintro _ _ _ h49 ⟨k93, A', rfl, hk93, p', rc, hres⟩
            rcases hres with ⟨rfl, hfull⟩ | ⟨rfl, lf, rg, m, hw', pi, r93⟩
            · refine Br.t rfl ?_
              refine St.all und_hv rfl (vs := hcells' 0 0 (ByteArray.mk #[]) 0 0 0) sz_hv one_hv p'.r3 rfl fun h50 u50 r50 => Ld.hv (Cells.whole r50) ?_
              obtain ⟨f50, a50⟩ := p'.f.upd p'.sf3 (m := h.size) (by have := p'.ks; omega) (by have := p'.ks; omega) u50
              exact q1 (by omega) _ _ _ _ _ _ h50 A' f50 rc (p'.ax.trans a50)
            · refine Br.f rfl ?_
              have n49 := p'.nde
              refine Ld.ints (row_at p'.r5 rfl) ?_
              show Ld _ _ _ _ _ _
              refine Ld.i (row_cell r93 rfl) (n49.p.get (v := icell k) (by rw [List.getElem?_map, hk]; rfl) fun a ha hc => ?_)
              rw [nat_mul]
              refine p'.setKid (k := lf) hkn ha fun h61 p61 u61 => ?_
              have r9361 := u61.row r93 fun e0 => by
                obtain ⟨_, _, c, hc'⟩ := p'.nd.p.blk ha
                rw [← e0, r93] at hc'; cases hc'
              show Ld _ _ _ _ _ _
              refine Ld.i (row_at r9361 rfl) (Br.mk (fun hr => ?_) fun hr => ?_)
              · have hr0 : rg ≠ 0 := by simp at hr; omega
                rcases pi with ⟨h1, _⟩ | ⟨_, mok, l1, l2, t1, t2, hl⟩
                · exact absurd h1 hr0
                show Ld _ _ _ _ _ _
                refine Ld.str (row_at r9361 rfl) ?_
                show Ld _ _ _ _ _ _
                refine Ld.ref (halves_str r9361) (p61.insert (m := m) pl.le (by omega) fun s1' s2' h70 p70 _ frm => ?_)
                have r9370 : h70[k93]? = some (.cells (hcells' (lf : Int) (rg : Int) m.1 (m.2.ser : Int) (m.2.pos : Int) (m.2.len : Int)).toArray ty_btree_halves (0, 0)) := by
                  refine (frm k93 (row_lt r9361) (ne_row r9361 p61.r5 (by decide)) (fun a' ha' e0 => ?_) fun a' ha' e0 => ?_).trans r9361
                  · obtain ⟨_, _, c, hc'⟩ := p61.nd.k.blk ha'
                    rw [← e0, r9361] at hc'; cases hc'
                  · obtain ⟨_, _, c, hc'⟩ := p61.nd.r.blk ha'
                    rw [← e0, r9361] at hc'; cases hc'
                refine Ld.ints (row_at p70.r5 rfl) ?_
                show Ld _ _ _ _ _ _
                refine Ld.i (row_at r9370 rfl) ?_
                rw [wrap_succ (by have := pl.le; omega)]
                refine p70.insKid (by rw [List.length_set]; have := pl.le; omega) (by rw [List.length_set]; omega) fun s3' h78 p78 => ?_
                refine ⟨A', s1', s2', s3', insE es n m, insK (kids.set n lf) (n + 1) rg, p78, rc, hw', ?_, ?_, ?_⟩
                · rw [hins, hl]
                  exact pt.two hkl pl.le rc t1 t2
                · rw [insE_len _ _ _ pl.le]
                  omega
                · rw [insE_len _ _ _ pl.le]; omega
              · have hr0 : rg = 0 := by simp at hr; omega
                rcases pi with ⟨_, t1⟩ | ⟨h1, _⟩
                · refine ⟨A', s1, s2, s3, es, kids.set n lf, p61, rc, hw', ?_, ?_, by omega⟩
                  · rw [hins]
                    exact pt.set hkl pl.le rc t1
                  · exact hlo
                · exact absurd hr0 h1
          · have okn := nt.ok okl (by omega : es.length ≤ 8) (by obtain ⟨_, _, _, _, a⟩ := f.a; have := a.most; omega)
            refine Ld.ints (row_at p.r5 rfl) (n9.p.get (v := icell k) (by rw [List.getElem?_map, hk]; rfl) fun a ha hc => ?_)
            rw [nat_mul, Nat.mul_one]
            refine Ld.i hc (Ld.ref (Cells.whole p.r1) ⟨?_, New.go fun h97 _ x97 z97 r97 => ?_⟩)
            · refine ih p.f aok (.inr tk) srt_s (fun x hx => okl x (hsub x hx)) oke (fun hb lf rg k a b c h92 A' f92 rc92 a92 => ?_) fun lf rg m h92 A' f92 rc92 hw92 a92 pi92 _ => ?_
              · have p92 := p.arx f92 a92
                refine New.go fun h94 _ x94 z94 r94 => ?_
                refine St.all und_hv rfl (vs := hcells' lf rg k a b c) sz_hv one_hv r94 rfl fun h95 u95 r95 => ?_
                exact ⟨h92.size, A', rfl, p92.ks.2.2.2.2.2.2.2, (p92.ext x94).updH r94 p92.ks.2.2.2.2.2.2.2 u95, rc92, .inl ⟨rfl, hb⟩⟩
              · have p92 := p.arx f92 a92
                refine New.go fun h94 _ x94 z94 r94 => ?_
                refine St.all und_hv rfl (vs := hcells' (lf : Int) (rg : Int) m.1 (m.2.ser : Int) (m.2.pos : Int) (m.2.len : Int)) sz_hv one_hv r94 rfl fun h95 u95 r95 => ?_
                exact ⟨h92.size, A', rfl, p92.ks.2.2.2.2.2.2.2, (p92.ext x94).updH r94 p92.ks.2.2.2.2.2.2.2 u95, rc92, .inr ⟨rfl, lf, rg, m, hw92, pi92, r95⟩⟩
            · have p97 := p.ext x97
              refine ⟨Ld.ref (Cells.whole p97.r1) rfl, Ld.i (x97.cellAt (cellAt_lt hc) hc) rfl, Ld.ints (row_at p97.r5 rfl) rfl, ?_⟩
              have hB := p.ks.2.2.2.2.2.2.2
              have sf : Safe h97 ka h9.size := safeT p97.f.a r97 (by decide) (by decide) (by decide)
              refine ih p97.f aok (.inr tk) srt_s (fun x hx => okl x (hsub x hx)) oke (fun hb lf rg k a b c h92 A' f92 rc92 a92 => ?_) fun lf rg m h92 A' f92 rc92 hw92 a92 pi92 _ => ?_
              · have p92 := p97.arx f92 a92
                have r92 := (sf.keep sf.1 a92).trans r97
                refine St.all und_hv rfl (vs := hcells' lf rg k a b c) sz_hv one_hv r92 rfl fun h95 u95 r95 => ?_
                exact ⟨h9.size, A', rfl, hB, p92.updH r92 hB u95, rc92, .inl ⟨rfl, hb⟩⟩
              · have p92 := p97.arx f92 a92
                have r92 := (sf.keep sf.1 a92).trans r97
                refine St.all und_hv rfl (vs := hcells' (lf : Int) (rg : Int) m.1 (m.2.ser : Int) (m.2.pos : Int) (m.2.len : Int)) sz_hv one_hv r92 rfl fun h95 u95 r95 => ?_
                exact ⟨h9.size, A', rfl, hB, p92.updH r92 hB u95, rc92, .inr ⟨rfl, lf, rg, m, hw92, pi92, r95⟩⟩
end Go.Dn.W
