/- Forests: walk, All. -/
import Derived.Test.YtbipdjmdacelkaaGreatDnBk
set_option linter.unusedVariables false
namespace Go.Dn.W
open Go Go.Dn Go.Proofs

/-- all stands but for slices of entries, and their rows -/
structure KeepT (h h' : Mem) : Prop where
  size : h.size ≤ h'.size
  keep : ∀ j, j < h.size → (∀ (c : Array Value) (e : TypeId) (fz : Nat × Nat), h[j]? = some (Obj.cells c e fz) → e ≠ ty_sl_api_Entry ∧ e ≠ ty_api_Entry) → h'[j]? = h[j]?
theorem KeepT.refl (h : Mem) : KeepT h h := ⟨Nat.le_refl _, fun _ _ _ => rfl⟩
theorem KeepT.trans {a b c : Mem} (x : KeepT a b) (y : KeepT b c) : KeepT a c := ⟨Nat.le_trans x.size y.size, fun j hj ht => by
  have h1 := x.keep j hj ht
  refine (y.keep j (Nat.lt_of_lt_of_le hj x.size) fun c e fz hc => ht c e fz ?_).trans h1
  rw [← h1]; exact hc⟩
theorem KeepT.ext {h h' : Mem} (x : Ext h.size h h') : KeepT h h' := ⟨x.size, fun j hj _ => x.block j hj⟩
theorem KeepT.row {h h' : Mem} (x : KeepT h h') {k : Nat} {c : Array Value} {e : TypeId} {fz : Nat × Nat} (hk : h[k]? = some (.cells c e fz)) (h1 : e ≠ ty_sl_api_Entry) (h2 : e ≠ ty_api_Entry) : h'[k]? = some (.cells c e fz) :=
  (x.keep k (row_lt hk) fun c' e' fz' hc => by rw [hk] at hc; cases hc; exact ⟨h1, h2⟩).trans hk
theorem KeepT.owns {h h' : Mem} (x : KeepT h h') {B : Nat} {e : TypeId} {size : Nat} {s : Sl} {xs : List Value} (o : Owns h B e size s xs) (h1 : e ≠ ty_sl_api_Entry) (h2 : e ≠ ty_api_Entry) : Owns h' B e size s xs := o.kept fun a ha => by
  obtain ⟨_, hlt, c, hc⟩ := o.blk ha
  exact x.keep _ hlt fun c' e' fz' hc' => by rw [hc] at hc'; cases hc'; exact ⟨h1, h2⟩
theorem KeepT.nd {h h' : Mem} (x : KeepT h h') {B : Nat} {s1 s2 s3 : Sl} {es : List En} {kids : List Nat} (n : NdO h B s1 s2 s3 es kids) : NdO h' B s1 s2 s3 es kids := ⟨x.owns n.k (by decide) (by decide), x.owns n.r (by decide) (by decide), x.owns n.p (by decide) (by decide)⟩
theorem KeepT.ar {h h' : Mem} (x : KeepT h h') {ka : Nat} {A : Ar} (a : ArAt h ka A) : ArAt h' ka A := by
  obtain ⟨sw, sr, mp, n, a⟩ := a
  obtain ⟨es, cl, hm⟩ := a.set.obj
  exact ⟨sw, sr, mp, n, x.row a.r (by decide) (by decide), x.owns a.w (by decide) (by decide), x.owns a.roots (by decide) (by decide), a.set.keep (x.keep _ a.set.lt fun c e fz hc => by rw [hm] at hc; cases hc), a.wb, a.rb, a.most, a.n⟩
theorem KeepT.fo {h h' : Mem} (x : KeepT h h') {kf ka : Nat} {A : Ar} (f : FoAt h kf ka A) : FoAt h' kf ka A := ⟨x.row f.r (by decide) (by decide), x.ar f.a⟩
theorem KeepT.fos {h h' : Mem} (x : KeepT h h') {kf ka : Nat} {A : Ar} {L : Nat → List En} (f : FoIs h kf ka A L) : FoIs h' kf ka A L := ⟨x.fo f.f, f.ok, f.rl, f.rt, f.srt, f.ent⟩
def ensL (l : List En) : List Value := (l.map encells).flatten
theorem ensL_len (l : List En) : (ensL l).length = l.length * 4 := by
  induction l with
  | nil => rfl
  | cons e l ih =>
    unfold ensL at *
    rw [List.map_cons, List.flatten_cons, List.length_append, ih, List.length_cons]
    simp [encells]; omega
theorem ensL_app (a b : List En) : ensL (a ++ b) = ensL a ++ ensL b := by simp [ensL]
theorem ensL_one (e : En) : ensL [e] = encells e := by simp [ensL]
def WK (h : Mem) (k1 B : Nat) (acc : List En) : Prop := ∃ s : Sl, h[k1]? = some (.cells #[sval s] ty_sl_api_Entry (0, 0)) ∧ Owns h B ty_api_Entry 4 s (ensL acc) ∧ B ≤ h.size
theorem WK.ext {h h' : Mem} {k1 B : Nat} {acc : List En} (w : WK h k1 B acc) (x : Ext h.size h h') : WK h' k1 B acc := by
  obtain ⟨s, r, o, b⟩ := w
  exact ⟨s, x.row' r, o.ext x, Nat.le_trans b x.size⟩
theorem und_ens : PG.underlying ty_sl_api_Entry = some (.slice ty_api_Entry) := by kernel_rfl
theorem agg_ens : isAggB PG ty_sl_api_Entry = false := by kernel_rfl
theorem info_en : infoOk PG ty_api_Entry 4 40 = true := by kernel_rfl
section
variable {h : Mem} {ka kf : Nat} {A : Ar}
theorem Ld.ens {a : Addr} {v : Sl} {K : Sl → Prop} (hc : cellAt h a = some (sval v)) (hk : K v) : Ld PG ty_sl_api_Entry a (.one (.leaf .sl)) h K := Ld.cell (l := .sl) und_ens agg_ens hc hk
/-- an entry is put behind those in a slice in a variable of its own -/
theorem push_en {k1 B : Nat} {acc : List En} {e : En} {s : Sl} {K : Mem → Prop} (r : h[k1]? = some (.cells #[sval s] ty_sl_api_Entry (0, 0))) (o : Owns h B ty_api_Entry 4 s (ensL acc)) (b : B ≤ h.size) (hl : acc.length ≤ 2000000)
    (hk : ∀ h', WK h' k1 B (acc ++ [e]) → KeepT h h' → (∀ j, j < B → j ≠ k1 → h'[j]? = h[j]?) → K h') :
    New (Obj.cells (encells e).toArray ty_api_Entry) h fun k8 h9 =>
      PrimT PG (Builtin.append_ #[ty_sl_api_Entry, ty_sl_api_Entry] ty_sl_api_Entry #[.slice s.a s.len s.cap, .slice (some ⟨k8, 0, none⟩) 1 1]) (.one (.leaf .sl)) h9 fun s' h11 => St PG ty_sl_api_Entry ⟨k1, 0, none⟩ (.slice s'.a s'.len s'.cap) h11 K := by
  have hlen : s.len = acc.length := by have := o.1; rw [ensL_len] at this; omega
  refine put_new (news := encells e) (bytes := 40) und_ens info_en (by decide) o rfl one_en (by omega) b fun s' h11 l' o' g => ?_
  have r11 := g.row o r (by decide)
  refine St.at1 (o := 0) (cs := [sval s]) ⟨_, und_ens⟩ (by kernel_rfl) rfl rfl r11 (by show 0 < 1; decide) fun h13 u r13 => hk h13 ⟨s', r13, ?_, by rw [u.size]; exact Nat.le_trans b g.size⟩ ⟨by rw [u.size]; exact g.size, fun j hj ht => ?_⟩ fun j hj hn => ?_
  · rw [ensL_app, ensL_one]
    exact o'.updT u r11 (by decide)
  · refine (u.block j fun e0 => ?_).trans (g.block j hj fun a ha e0 => ?_)
    · rw [e0] at ht; exact (ht _ _ _ r).1 rfl
    · obtain ⟨_, _, c, hc⟩ := o.blk ha
      rw [← e0] at hc
      exact (ht _ _ _ hc).2 rfl
  · exact (u.block j hn).trans (g.block j (by omega) fun a ha => by have := (o.blk ha).1; omega)
theorem ct_All_1 {k1 B : Nat} {acc : List En} {e : En} {Q : Bool → Mem → Prop} (w : WK h k1 B acc) (hl : acc.length ≤ 2000000) (q : ∀ h', WK h' k1 B (acc ++ [e]) → KeepT h h' → (∀ j, j < B → j ≠ k1 → h'[j]? = h[j]?) → Q true h') :
    CallF PG fn_btree_Forest_All_1 [.string e.1, .agg #[.int .u64 (e.2.ser : Int), .int .i64 (e.2.pos : Int), .int .i64 (e.2.len : Int)], .pointer (some ⟨k1, 0, none⟩)] (.one (.leaf .bool)) h Q := by
  refine call_btree_Forest_All_1 (New.go fun h2 _ x2 z2 r2 => ?_)
  show Ld _ _ _ _ _ _
  obtain ⟨s, r, o, b⟩ := w.ext x2
  refine Ld.ens (row_cell r rfl) (Ld.ref (Cells.whole r2) ?_)
  exact push_en (e := e) r o b hl fun h' w' k' f' => q h' w' ((KeepT.ext x2).trans k') fun j hj hn => (f' j hj hn).trans (x2.block j (by obtain ⟨_, _, _, b⟩ := w; omega))
/-- the yield of All -/
abbrev yld (k1 : Nat) : Value := .func (.func fn_btree_Forest_All_1) #[] #[.pointer (some ⟨k1, 0, none⟩)]
theorem ct_yld {k1 B : Nat} {acc : List En} {e : En} {Q : Bool → Mem → Prop} (w : WK h k1 B acc) (hl : acc.length ≤ 2000000) (q : ∀ h', WK h' k1 B (acc ++ [e]) → KeepT h h' → (∀ j, j < B → j ≠ k1 → h'[j]? = h[j]?) → Q true h') :
    CallV PG (yld k1) [.string e.1, .agg #[.int .u64 (e.2.ser : Int), .int .i64 (e.2.pos : Int), .int .i64 (e.2.len : Int)]] (.one (.leaf .bool)) h Q :=
  callV_bound (first := []) (bound := [.pointer (some ⟨k1, 0, none⟩)]) (ct_All_1 w hl q)
theorem ct_walk : ∀ (d : Nat) {h : Mem} {at' lo k1 B : Nat} {l acc : List En} {Q : Bool → Mem → Prop}, FoAt h kf ka A → ArOk A → Tree A lo d at' l → (∀ x ∈ l, x.Ok) → WK h k1 B acc → acc.length + l.length ≤ 2000000 →
    (∀ h', WK h' k1 B (acc ++ l) → KeepT h h' → (∀ j, j < B → j ≠ k1 → h'[j]? = h[j]?) → Q true h') → CallF PG fn_btree_Forest_walk [.pointer (some ⟨kf, 0, none⟩), .int .i64 (at' : Int), yld k1] (.one (.leaf .bool)) h Q := by
  intro d
  induction d with
  | zero =>
    intro h at' lo k1 B l acc Q f aok t okl w hacc q
    have h0 := t.ne0 aok
    obtain ⟨es, kids, his, hlo, h7, hk, rfl⟩ := t
    subst hk
    have hwB := w
    refine call_btree_Forest_walk (Br.f (by simp; omega) (ct_load f his okl (by omega) fun s1 s2 s3 h4 x4 n4 => New.go fun h6 _ x6 z6 r6 => ?_))
    refine St.all und_node rfl (vs := ndcells s1 s2 s3) sz_node one_nd r6 rfl fun h7' u7 r7 => ?_
    have x7 : Ext h.size h h7' := x4.after (x6.trans (u7.ext (Nat.le_refl _)))
    have n7 := (n4.ext x6).updT u7 r6 (by decide) (by decide) (by decide)
    have l1 := (Owns.els n7.k).len
    rw [List.length_map] at l1
    have lo7 : ∀ j, j < B → j ≠ k1 → h7'[j]? = h[j]? := fun j hj _ => x7.block j (by obtain ⟨_, _, _, b⟩ := hwB; omega)
    refine Ld.strs (row_cell r7 rfl) ?_
    refine ⟨fun n h' => ∃ i : Nat, n = (i : Int) ∧ i ≤ l.length ∧ WK h' k1 B (acc ++ l.take i) ∧ KeepT h7' h' ∧ (∀ j, j < B → j ≠ k1 → h'[j]? = h7'[j]?), fun n _ => (l.length - n).toNat, ⟨0, rfl, Nat.zero_le _, by simpa using w.ext x7, .refl _, fun _ _ _ => rfl⟩, ?_⟩
    rintro _ _ h13 ⟨i, rfl, hi, wi, ki, fi⟩
    have n13 := ki.nd n7
    have r13 := ki.row r7 (by decide) (by decide)
    refine Br.mk (fun hlt => ?_) fun hge => ?_
    · have hlt : i < l.length := by simp at hlt; omega
      obtain ⟨e, he⟩ : ∃ e, l[i]? = some e := ⟨_, List.getElem?_eq_getElem hlt⟩
      refine (Owns.els n13.k).get (v := ecell e) (by rw [List.getElem?_map, he]; rfl) fun a ha hc => ?_
      have hc2 : cellAt h13 (a.add ((i : Int).toNat * 1)) = some (ecell e) := by rw [nat_mul, Nat.mul_one]; exact hc
      have l3 := (Owns.els n13.p).len
      refine Ld.str hc2 (Ld.ints (row_at r13 rfl) (Br.f (by rw [l3]; rfl) (Ld.refs (row_at r13 rfl) ((Owns.elsR n13.r).get he fun a ha hc => Ld.ref hc ?_))))
      refine ct_yld (e := e) wi (by rw [List.length_append, List.length_take]; omega) fun h28 w28 k28 f28 => Br.f rfl ?_
      rw [wrap_succ (by omega)]
      refine ⟨⟨i + 1, rfl, hlt, ?_, ki.trans k28, fun j hj hn => (f28 j hj hn).trans (fi j hj hn)⟩, meas hlt (by decide)⟩
      rw [List.take_add_one, he, ← List.append_assoc]
      exact w28
    · have hge : i = l.length := by simp at hge; omega
      subst hge
      have l3 := (Owns.els n13.p).len
      refine Ld.ints (row_at r13 rfl) (Br.t (by rw [l3]; rfl) ?_)
      rw [List.take_length] at wi
      exact q h13 wi ((KeepT.ext x7).trans ki) fun j hj hn => (fi j hj hn).trans (lo7 j hj hn)
  | succ d ih =>
    intro h at' lo k1 B l acc Q f aok t okl w hacc q
    have h0 := t.ne0 aok
    obtain ⟨es, kids, his, hlo, h7, nt⟩ := t
    have oke := fun x hx => okl x (nt.mem x hx)
    have hkl := nt.1
    obtain ⟨subs, hsl, hsub, hlw⟩ := nt.2
    have hwB := w
    have hwl : ∀ i, i ≤ es.length → ∃ post, l = W1 (subs.take i) (es.take i) ++ post ∧ (∀ s, subs[i]? = some s → ∃ post', post = s ++ post' ∧ (∀ e, es[i]? = some e → ∃ post'', post' = e :: post'')) := fun i hi => by
      obtain ⟨s, hs⟩ : ∃ s, subs[i]? = some s := ⟨_, List.getElem?_eq_getElem (by omega)⟩
      have e1 : subs = subs.take i ++ s :: subs.drop (i + 1) := by
        have hi' := (List.getElem?_eq_some_iff.1 hs).1
        have h2 := List.drop_eq_getElem_cons hi'
        rw [List.getElem?_eq_getElem hi'] at hs
        rw [Option.some.inj hs] at h2
        rw [← h2, List.take_append_drop]
      have e2 := weave_mid (subs.take i) (es.take i) s (subs.drop (i + 1)) (es.drop i) (by simp; omega) (by simp; omega)
      rw [← e1, List.take_append_drop] at e2
      refine ⟨s ++ W2 (es.drop i) (subs.drop (i + 1)), by rw [hlw, e2, List.append_assoc], fun s' hs' => ⟨W2 (es.drop i) (subs.drop (i + 1)), by rw [hs] at hs'; cases hs'; rfl, fun e he => ?_⟩⟩
      rw [PlE.dropHd (key := e.1) he]
      have : (subs.drop (i + 1)).length ≠ 0 := by have := (List.getElem?_eq_some_iff.1 he).1; simp; omega
      cases hd : subs.drop (i + 1) with
      | nil => rw [hd] at this; exact absurd rfl this
      | cons t ts => exact ⟨_, rfl⟩
    refine call_btree_Forest_walk (Br.f (by simp; omega) (ct_load f his oke (by omega) fun s1 s2 s3 h4 x4 n4 => New.go fun h6 _ x6 z6 r6 => ?_))
    refine St.all und_node rfl (vs := ndcells s1 s2 s3) sz_node one_nd r6 rfl fun h7' u7 r7 => ?_
    have x7 : Ext h.size h h7' := x4.after (x6.trans (u7.ext (Nat.le_refl _)))
    have n7 := (n4.ext x6).updT u7 r6 (by decide) (by decide) (by decide)
    have f7 := f.ext x7
    have l1 := (Owns.els n7.k).len
    rw [List.length_map] at l1
    have lo7 : ∀ j, j < B → j ≠ k1 → h7'[j]? = h[j]? := fun j hj _ => x7.block j (by obtain ⟨_, _, _, b⟩ := hwB; omega)
    refine Ld.strs (row_cell r7 rfl) ?_
    refine ⟨fun n h' => ∃ i : Nat, n = (i : Int) ∧ i ≤ es.length ∧ WK h' k1 B (acc ++ W1 (subs.take i) (es.take i)) ∧ KeepT h7' h' ∧ (∀ j, j < B → j ≠ k1 → h'[j]? = h7'[j]?), fun n _ => (es.length - n).toNat, ⟨0, rfl, Nat.zero_le _, by simpa [W1] using w.ext x7, .refl _, fun _ _ _ => rfl⟩, ?_⟩
    rintro _ _ h13 ⟨i, rfl, hi, wi, ki, fi⟩
    have n13 := ki.nd n7
    have r13 := ki.row r7 (by decide) (by decide)
    have l3 := (Owns.els n13.p).len
    rw [List.length_map] at l3
    obtain ⟨post, hl1, hl2⟩ := hwl i hi
    obtain ⟨s, hs⟩ : ∃ s, subs[i]? = some s := ⟨_, List.getElem?_eq_getElem (by omega)⟩
    obtain ⟨k, hk⟩ : ∃ k, kids[i]? = some k := ⟨_, List.getElem?_eq_getElem (by omega)⟩
    obtain ⟨post', hp1, hp2⟩ := hl2 s hs
    have hlen := congrArg List.length hl1
    rw [hp1, List.length_append, List.length_append] at hlen
    have tk : Tree A 3 d k s := hsub i k s hk hs
    have oks : ∀ x ∈ s, x.Ok := fun x hx => okl x (by rw [hl1, hp1]; simp [hx])
    refine Br.mk (fun hlt => ?_) fun hge => ?_
    · have hlt : i < es.length := by simp at hlt; omega
      obtain ⟨e, he⟩ : ∃ e, es[i]? = some e := ⟨_, List.getElem?_eq_getElem hlt⟩
      obtain ⟨post'', hp3⟩ := hp2 e he
      rw [hp3, List.length_cons] at hlen
      refine (Owns.els n13.k).get (v := ecell e) (by rw [List.getElem?_map, he]; rfl) fun a ha hc => ?_
      have hc2 : cellAt h13 (a.add ((i : Int).toNat * 1)) = some (ecell e) := by rw [nat_mul, Nat.mul_one]; exact hc
      refine Ld.str hc2 (Ld.ints (row_at r13 rfl) (Br.t (by simp; omega) (Ld.ints (row_at r13 rfl) ((Owns.els n13.p).get (v := icell k) (by rw [List.getElem?_map, hk]; rfl) fun a ha hc => ?_))))
      have hc3 : cellAt h13 (a.add ((i : Int).toNat * 1)) = some (icell k) := by rw [nat_mul, Nat.mul_one]; exact hc
      refine Ld.i hc3 (ih (ki.fo f7) aok tk oks wi (by rw [List.length_append]; omega) fun h21 w21 k21 f21 => Br.f rfl ?_)
      have n21 := k21.nd n13
      have r21 := k21.row r13 (by decide) (by decide)
      refine Ld.refs (row_at r21 rfl) ((Owns.elsR n21.r).get he fun a ha hc => Ld.ref hc ?_)
      refine ct_yld (e := e) w21 (by rw [List.length_append, List.length_append]; omega) fun h28 w28 k28 f28 => Br.f rfl ?_
      rw [wrap_succ (by omega)]
      refine ⟨⟨i + 1, rfl, hlt, ?_, (ki.trans k21).trans k28, fun j hj hn => (f28 j hj hn).trans ((f21 j hj hn).trans (fi j hj hn))⟩, meas hlt (by decide)⟩
      rw [List.take_add_one, List.take_add_one, he, hs]
      simp only [Option.toList_some]
      rw [W1_last _ _ _ _ (by simp; omega)]
      simpa [List.append_assoc] using w28
    · have hge : i = es.length := by simp at hge; omega
      subst hge
      refine Ld.ints (row_at r13 rfl) (Br.f (by simp; omega) (Ld.ints (row_at r13 rfl) (Ld.strs (row_cell r13 rfl) ?_)))
      rw [l1]
      refine (Owns.els n13.p).get (v := icell k) (by rw [List.getElem?_map, hk]; rfl) fun a ha hc => ?_
      have hc3 : cellAt h13 (a.add ((es.length : Int).toNat * 1)) = some (icell k) := by rw [nat_mul, Nat.mul_one]; exact hc
      refine Ld.i hc3 (ih (ki.fo f7) aok tk oks wi (by rw [List.length_append]; omega) fun h21 w21 k21 f21 => ?_)
      have e2 := weave_mid (subs.take es.length) es s [] [] (by simp; omega) rfl
      have e3 : subs = subs.take es.length ++ [s] := by
        have := List.take_add_one (l := subs) (i := es.length)
        rw [hs, List.take_of_length_le (by omega)] at this
        exact this
      rw [← e3, List.append_nil] at e2
      have e4 : l = W1 (subs.take es.length) es ++ s := by rw [hlw, e2]; simp [W2]
      rw [List.take_length, List.append_assoc, ← e4] at w21
      exact q h21 w21 (((KeepT.ext x7).trans ki).trans k21) fun j hj hn => (f21 j hj hn).trans ((fi j hj hn).trans (lo7 j hj hn))
theorem ct_All {L : Nat → List En} {root : Nat} {Q : Value → Mem → Prop} (f : FoIs h kf ka A L) (hroot : root < 16) (hl : (L root).length ≤ 1000000)
    (q : ∀ k1 s h', Ext h.size h h' → h.size ≤ k1 → h'[k1]? = some (.cells #[sval s] ty_sl_api_Entry (0, 0)) → Owns h' h.size ty_api_Entry 4 s (ensL (L root)) → Q (.func (.func fn_btree_Forest_All_2) #[] #[.pointer (some ⟨k1, 0, none⟩)]) h') :
    CallF PG fn_btree_Forest_All [.pointer (some ⟨kf, 0, none⟩), .int .i64 (root : Int)] (.one (.leaf .raw)) h Q := by
  obtain ⟨r, hr, ht⟩ := f.rt root hroot
  refine call_btree_Forest_All (New.go fun h2 _ x2 z2 r2 => Br.t rfl ?_)
  show Ld _ _ _ _ _ _
  have f2 := f.ext x2
  have w2 : WK h2 h.size h.size [] := ⟨⟨none, 0, 0⟩, r2, Owns.nil _ _ _ _, x2.size⟩
  refine Ld.pa (row_cell f2.f.r rfl) (ct_Root f2.f.a hr ?_)
  have fin : ∀ h', WK h' h.size h.size (L root) → (∀ j, j < h.size → j ≠ h.size → h'[j]? = h2[j]?) → h2.size ≤ h'.size → Q (.func (.func fn_btree_Forest_All_2) #[] #[.pointer (some ⟨h.size, 0, none⟩)]) h' := fun h' ⟨s, r', o, b⟩ fr hz =>
    q h.size s h' ⟨by omega, fun j hj => (fr j hj (by omega)).trans (x2.block j hj)⟩ (Nat.le_refl _) r' o
  rcases ht with ⟨h1, h2'⟩ | ⟨d, t⟩
  · subst h1
    refine call_btree_Forest_walk (Br.t rfl ?_)
    rw [h2'] at fin
    exact fin h2 w2 (fun _ _ _ => rfl) (Nat.le_refl _)
  · refine ct_walk d f2.f f2.ok t (f.ent root) w2 (by simpa using (by omega : (L root).length ≤ 2000000)) fun h' w' k' f' => ?_
    rw [List.nil_append] at w'
    exact fin h' w' (fun j hj hn => f' j hj hn) k'.size
end
end Go.Dn.W
