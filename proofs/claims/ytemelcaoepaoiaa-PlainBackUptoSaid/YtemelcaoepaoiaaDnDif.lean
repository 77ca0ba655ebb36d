/- Differences of two lists of pairs: the plain law, and the program. -/
import Derived.Test.YtemelcaoepaoiaaDnL11c
set_option linter.unusedVariables false
namespace Go.Dn.W
open Go Go.Dn Go.Proofs

structure Df where
  key : ByteArray
  was : Bool
  is : Bool
  old : List UInt8
  new : List UInt8
  deriving DecidableEq

/-- the first pair of a is told -/
def wasOf : List Pr → List Pr → Bool
  | [], _ => false
  | _ :: _, [] => true
  | p :: _, q :: _ => !sLt q.key p.key
def hdP (l : List Pr) : Pr := l.headD ⟨emp, []⟩
def dOf (a b : List Pr) : Df :=
  ⟨bif wasOf b a then (hdP b).key else bif wasOf a b then (hdP a).key else emp, wasOf a b, wasOf b a, bif wasOf a b then (hdP a).val else [], bif wasOf b a then (hdP b).val else []⟩
def keepD (d : Df) : Bool := !d.was || (!d.is || !decide (d.old = d.new))
def stepD (a b : List Pr) : List Df := bif keepD (dOf a b) then [dOf a b] else []
def nextA (a b : List Pr) : List Pr := bif wasOf a b then a.tail else a
def diffN : Nat → List Pr → List Pr → List Df
  | 0, _, _ => []
  | n + 1, a, b => if a = [] ∧ b = [] then [] else stepD a b ++ diffN n (nextA a b) (nextA b a)
def pDiff (a b : List Pr) : List Df := diffN (a.length + b.length) a b
/-- in which keys two lists of pairs differ -/
def pDiffer (a b : List Pr) : List Df := if Right a ∧ Right b then pDiff a b else []

theorem was_some {a b : List Pr} (h : ¬ (a = [] ∧ b = [])) : wasOf a b = true ∨ wasOf b a = true := by
  cases a with
  | nil => cases b with
    | nil => exact absurd ⟨rfl, rfl⟩ h
    | cons q b => exact .inr rfl
  | cons p a => cases b with
    | nil => exact .inl rfl
    | cons q b =>
      simp only [wasOf, Bool.not_eq_true']
      cases h1 : sLt q.key p.key with
      | false => exact .inl rfl
      | true => exact .inr (sLt_asymm h1)
theorem was_ne {a b : List Pr} (h : wasOf a b = true) : ∃ p l, a = p :: l := by
  cases a with
  | nil => simp [wasOf] at h
  | cons p l => exact ⟨p, l, rfl⟩
theorem next_len (a b : List Pr) : (nextA a b).length + (if wasOf a b = true then 1 else 0) = a.length := by
  unfold nextA
  cases h : wasOf a b with
  | false => simp
  | true => obtain ⟨p, l, rfl⟩ := was_ne h; simp
theorem next_lt {a b : List Pr} (h : ¬ (a = [] ∧ b = [])) : (nextA a b).length + (nextA b a).length < a.length + b.length := by
  have h1 := next_len a b
  have h2 := next_len b a
  rcases was_some h with h3 | h3
  · rw [if_pos h3] at h1; split at h2 <;> omega
  · rw [if_pos h3] at h2; split at h1 <;> omega
theorem diffN_stable : ∀ (n m : Nat) (a b : List Pr), a.length + b.length ≤ n → a.length + b.length ≤ m → diffN n a b = diffN m a b
  | 0, 0, _, _, _, _ => rfl
  | 0, m + 1, a, b, h, _ => by
    have ha : a = [] := List.eq_nil_of_length_eq_zero (by omega)
    have hb : b = [] := List.eq_nil_of_length_eq_zero (by omega)
    rw [diffN, diffN, if_pos ⟨ha, hb⟩]
  | n + 1, 0, a, b, _, h => by
    have ha : a = [] := List.eq_nil_of_length_eq_zero (by omega)
    have hb : b = [] := List.eq_nil_of_length_eq_zero (by omega)
    rw [diffN, diffN, if_pos ⟨ha, hb⟩]
  | n + 1, m + 1, a, b, h1, h2 => by
    rw [diffN, diffN]
    by_cases h : a = [] ∧ b = []
    · rw [if_pos h, if_pos h]
    · have := next_lt h
      rw [if_neg h, if_neg h, diffN_stable n m _ _ (by omega) (by omega)]
theorem pDiff_step {a b : List Pr} (h : ¬ (a = [] ∧ b = [])) : pDiff a b = stepD a b ++ pDiff (nextA a b) (nextA b a) := by
  have h0 := next_lt h
  unfold pDiff
  cases hn : a.length + b.length with
  | zero => omega
  | succ n =>
    rw [diffN, if_neg h, diffN_stable n ((nextA a b).length + (nextA b a).length) _ _ (by omega) (Nat.le_refl _)]
theorem pDiff_nil : pDiff [] [] = [] := rfl
theorem diffN_length : ∀ (n : Nat) (a b : List Pr), (diffN n a b).length ≤ a.length + b.length
  | 0, _, _ => by simp [diffN]
  | n + 1, a, b => by
    rw [diffN]
    by_cases h : a = [] ∧ b = []
    · rw [if_pos h]; simp
    · rw [if_neg h, List.length_append]
      have h1 := diffN_length n (nextA a b) (nextA b a)
      have h2 := next_lt h
      have h3 : (stepD a b).length ≤ 1 := by unfold stepD; cases keepD (dOf a b) <;> simp
      omega
theorem pDiffer_length (a b : List Pr) : (pDiffer a b).length ≤ a.length + b.length := by
  unfold pDiffer
  split
  · exact diffN_length _ _ _
  · simp
theorem Right.tail {p : Pr} {l : List Pr} (r : Right (p :: l)) : Right l := by
  obtain ⟨h1, h2⟩ := Right.iff.1 r
  exact Right.iff.2 ⟨fun q hq => h1 q (by simp [hq]), (List.pairwise_cons.1 h2).2⟩
theorem Right.next {a b : List Pr} (r : Right a) : Right (nextA a b) := by
  unfold nextA
  cases h : wasOf a b with
  | false => exact r
  | true => obtain ⟨p, l, rfl⟩ := was_ne h; exact r.tail

/-! ### differences in the heap -/

def dcells (k : ByteArray) (was is : Bool) (v w : Sl) : List Value := [.string k, .bool was, .bool is, sval v, sval w]
theorem one_dcells (k : ByteArray) (x y : Bool) (v w : Sl) : ∀ u ∈ dcells k x y v w, u.oneCell' = true := by
  intro u hu
  simp only [dcells, List.mem_cons, List.not_mem_nil, or_false] at hu
  rcases hu with rfl | rfl | rfl | rfl | rfl <;> rfl
def EDf : ElemRel Df := fun h B cs d => ∃ v w : Sl, cs = dcells d.key d.was d.is v w ∧ OwnB h B ty_uint8 v d.old ∧ OwnB h B ty_uint8 w d.new
theorem EDf.stab : Stab EDf := fun _ _ _ _ _ ⟨v, w, e, o, p⟩ k => ⟨v, w, e, OwnB.keep o k, OwnB.keep p k⟩
abbrev OwnD (h : Mem) (B : Nat) (s : Sl) (l : List Df) : Prop := OwnL ty_api_Diff 5 EDf h B B s l
theorem und_diff : ∃ d, PG.underlying ty_api_Diff = some d := Option.isSome_iff_exists.1 (by kernel_rfl)
theorem agg_diff : isAggB PG ty_api_Diff = true := by kernel_rfl
theorem sz_diff : szOf PG ty_api_Diff = 5 := by kernel_rfl
theorem und_diffs : PG.underlying ty_sl_api_Diff = some (.slice ty_api_Diff) := by kernel_rfl
theorem info_diff : infoOk PG ty_api_Diff 5 72 = true := by kernel_rfl
theorem sz_str : szOf PG ty_string = 1 := by kernel_rfl
theorem sz_bool : szOf PG ty_bool = 1 := by kernel_rfl

section
variable {h : Mem}
theorem Ld.diff {a : Addr} {k : ByteArray} {x y : Bool} {v w : Sl} {K : ByteArray → Bool → Bool → Sl → Sl → Prop} (hc : Cells h a (dcells k x y v w)) (hk : K k x y v w) : Ld PG ty_api_Diff a (.one (.agg [.str, .bool, .bool, .sl, .sl])) h K := by
  obtain ⟨d, hd⟩ := und_diff
  exact Ld.agg hd agg_diff sz_diff rfl hc ⟨k, .str k, x, .bool x, y, .bool y, v, .sl v.a v.len v.cap, w, .sl w.a w.len w.cap, hk⟩
/-- one cell of a row is written -/
theorem St.at {P : Program} {b i : Nat} {cs : List Value} {e t : TypeId} {d : TypeDesc} {v : Value} {K : Mem → Prop} (hu : P.underlying t = some d) (hsz : szOf P t = 1) (hv : v.cells = #[v]) (h1 : v.oneCell' = true)
    (hr : h[b]? = some (.cells cs.toArray e (0, 0))) (hi : i < cs.length) (hk : ∀ h', Upd b h h' → h'[b]? = some (.cells (cs.set i v).toArray e (0, 0)) → K h') : St P t ⟨b, i, none⟩ v h K := by
  refine St.row hu (vs := [v]) hv hsz (by simp [h1]) hr (by simp; omega) fun h' u r => hk h' u ?_
  rw [r, List.set_eq_take_append_cons_drop, if_pos hi]
  simp

theorem ct_bytes_Equal {s t : Sl} {l m : List UInt8} {Q : Bool → Mem → Prop} (b : BytesSl h s l) (c : BytesSl h t m) (q : Q (decide (l = m)) h) : CallF PG fn_bytes_Equal [.slice s.a s.len s.cap, .slice t.a t.len t.cap] (.one (.leaf .bool)) h Q := by
  refine call_bytes_Equal (read_bytes b.len b.at_ (read_bytes c.len c.at_ ?_))
  have : sEq ⟨l.toArray⟩ ⟨m.toArray⟩ = decide (l = m) := by
    unfold sEq
    rw [ByteArray.toList_mk, ByteArray.toList_mk, Bool.eq_iff_iff, beq_iff_eq, decide_eq_true_eq]
  rw [this]; exact q

/-- the first pair is left out -/
theorem PairsAt.tail {s : Sl} {p : Pr} {l : List Pr} (a : PairsAt h s (p :: l)) (hc : s.len ≤ s.cap) : PairsAt h (cutSl 2 s.a 1 s.len s.cap) l ∧ (cutSl 2 s.a 1 s.len s.cap).len ≤ (cutSl 2 s.a 1 s.len s.cap).cap := by
  have hlen := a.len
  rw [List.length_cons] at hlen
  obtain ⟨ad, ha, _⟩ := a.at_ 0 p rfl
  refine ⟨⟨?_, fun i q hq => ?_, fun hn => ?_⟩, ?_⟩
  · show s.len - 1 = l.length; omega
  · obtain ⟨ad', ha', hp⟩ := a.at_ (i + 1) q hq
    have hl := (List.getElem?_eq_some_iff.1 hq).1
    refine ⟨ad'.add (1 * 2), ?_, ?_⟩
    · unfold cutSl
      rw [if_neg (by omega), ha']
      rfl
    · rw [add_add', show 1 * 2 + i * 2 = (i + 1) * 2 by omega]; exact hp
  · unfold cutSl at hn
    simp only [ha] at hn
    split at hn <;> cases hn
  · show s.len - 1 ≤ s.cap - 1; omega

/-- the end of a round: what is told is appended, or nothing -/
theorem diff_push {B k : Nat} {out : Sl} {ol : List Df} {d : Df} {v w : Sl} (hB : B ≤ h.size) (hr : h[k]? = some (.cells (dcells d.key d.was d.is v w).toArray ty_api_Diff (0, 0))) (hv : OwnB h B ty_uint8 v d.old) (hw : OwnB h B ty_uint8 w d.new)
    (o : OwnD h B out ol) (hs : (ol.length + 1) * 72 ≤ 140737488355328) {R : Sl → Mem → Prop} (r : ∀ out' h', OwnD h' B out' (ol ++ [d]) → Ext B h h' → R out' h') :
    Ld PG ty_api_Diff (Addr.mk k 0 none) (Kd.one (Cmp.agg [Leaf.str, Leaf.bool, Leaf.bool, Leaf.sl, Leaf.sl])) h fun (t38 : ByteArray) (b39 b40 : Bool) (s41 s42 : Sl) =>
      New (Obj.cells #[Value.string t38, Value.bool b39, Value.bool b40, Value.slice s41.a s41.len s41.cap, Value.slice s42.a s42.len s42.cap] 87) h fun (k43 : Nat) (h44 : Mem) =>
        PrimT PG (Builtin.append_ #[ty_sl_api_Diff, ty_sl_api_Diff] ty_sl_api_Diff #[Value.slice out.a out.len out.cap, Value.slice (some (Addr.mk k43 0 none)) 1 1]) (Kd.one (Cmp.leaf Leaf.sl)) h44 fun (s45 : Sl) (h46 : Mem) => R s45 h46 := by
  refine Ld.diff (Cells.whole hr) (New.go fun h1 _ x1 z1 r1 => ?_)
  refine OwnL.push (bytes := 72) und_diffs info_diff (by decide) EDf.stab (Nat.le_trans hB x1.size) (o.ext EDf.stab x1) (Cells.whole (cs := dcells d.key d.was d.is v w) r1) rfl (one_dcells _ _ _ _ _) ⟨v, w, rfl, Owns.ext hv x1, Owns.ext hw x1⟩ (by decide) (by decide) hs
    fun s' h' o' e' _ _ => r s' h' o' ((x1.less hB).trans e')

theorem diff_tail {B k : Nat} {out : Sl} {ol : List Df} {d : Df} {v w : Sl} (hB : B ≤ h.size) (hr : h[k]? = some (.cells (dcells d.key d.was d.is v w).toArray ty_api_Diff (0, 0))) (hv : OwnB h B ty_uint8 v d.old) (hw : OwnB h B ty_uint8 w d.new)
    (o : OwnD h B out ol) (hs : (ol.length + 1) * 72 ≤ 140737488355328) {R : Sl → Mem → Prop} (r : ∀ out' h', OwnD h' B out' (ol ++ (bif keepD d then [d] else [])) → Ext B h h' → R out' h') :
    Ld PG ty_bool ((Addr.mk k 0 none).add 1) (Kd.one (Cmp.leaf Leaf.bool)) h fun (b37 : Bool) =>
      Br (!b37)
        (Ld PG ty_api_Diff (Addr.mk k 0 none) (Kd.one (Cmp.agg [Leaf.str, Leaf.bool, Leaf.bool, Leaf.sl, Leaf.sl])) h fun (t38 : ByteArray) (b39 b40 : Bool) (s41 s42 : Sl) =>
          New (Obj.cells #[Value.string t38, Value.bool b39, Value.bool b40, Value.slice s41.a s41.len s41.cap, Value.slice s42.a s42.len s42.cap] 87) h fun (k43 : Nat) (h44 : Mem) =>
            PrimT PG (Builtin.append_ #[ty_sl_api_Diff, ty_sl_api_Diff] ty_sl_api_Diff #[Value.slice out.a out.len out.cap, Value.slice (some (Addr.mk k43 0 none)) 1 1]) (Kd.one (Cmp.leaf Leaf.sl)) h44 fun (s45 : Sl) (h46 : Mem) => R s45 h46)
        (Ld PG ty_bool ((Addr.mk k 0 none).add 2) (Kd.one (Cmp.leaf Leaf.bool)) h fun (b47 : Bool) =>
          Br (!b47)
            (Ld PG ty_api_Diff (Addr.mk k 0 none) (Kd.one (Cmp.agg [Leaf.str, Leaf.bool, Leaf.bool, Leaf.sl, Leaf.sl])) h fun (t38 : ByteArray) (b39 b40 : Bool) (s41 s42 : Sl) =>
              New (Obj.cells #[Value.string t38, Value.bool b39, Value.bool b40, Value.slice s41.a s41.len s41.cap, Value.slice s42.a s42.len s42.cap] 87) h fun (k43 : Nat) (h44 : Mem) =>
                PrimT PG (Builtin.append_ #[ty_sl_api_Diff, ty_sl_api_Diff] ty_sl_api_Diff #[Value.slice out.a out.len out.cap, Value.slice (some (Addr.mk k43 0 none)) 1 1]) (Kd.one (Cmp.leaf Leaf.sl)) h44 fun (s45 : Sl) (h46 : Mem) => R s45 h46)
            (Ld PG ty_sl_uint8 ((Addr.mk k 0 none).add 3) (Kd.one (Cmp.leaf Leaf.sl)) h fun (s57 : Sl) =>
              Ld PG ty_sl_uint8 ((Addr.mk k 0 none).add 4) (Kd.one (Cmp.leaf Leaf.sl)) h fun (s58 : Sl) =>
                CallF PG fn_bytes_Equal [Value.slice s57.a s57.len s57.cap, Value.slice s58.a s58.len s58.cap] (Kd.one (Cmp.leaf Leaf.bool)) h fun (b59 : Bool) (h60 : Mem) =>
                  Br (!b59)
                    (Ld PG ty_api_Diff (Addr.mk k 0 none) (Kd.one (Cmp.agg [Leaf.str, Leaf.bool, Leaf.bool, Leaf.sl, Leaf.sl])) h60 fun (t38 : ByteArray) (b39 b40 : Bool) (s41 s42 : Sl) =>
                      New (Obj.cells #[Value.string t38, Value.bool b39, Value.bool b40, Value.slice s41.a s41.len s41.cap, Value.slice s42.a s42.len s42.cap] 87) h60 fun (k43 : Nat) (h44 : Mem) =>
                        PrimT PG (Builtin.append_ #[ty_sl_api_Diff, ty_sl_api_Diff] ty_sl_api_Diff #[Value.slice out.a out.len out.cap, Value.slice (some (Addr.mk k43 0 none)) 1 1]) (Kd.one (Cmp.leaf Leaf.sl)) h44 fun (s45 : Sl) (h46 : Mem) => R s45 h46)
                    (R (Sl.mk out.a out.len out.cap) h60))) := by
  have push : keepD d = true → ∀ out' h', OwnD h' B out' (ol ++ [d]) → Ext B h h' → R out' h' := fun e out' h' o' x' => r out' h' (by rw [e]; exact o') x'
  refine Ld.flag (v := d.was) (by rw [add_off]; exact row_cell hr rfl) (Br.mk (fun e1 => ?_) fun e1 => ?_)
  · exact diff_push hB hr hv hw o hs (push (by unfold keepD; rw [e1]; rfl))
  · refine Ld.flag (v := d.is) (by rw [add_off]; exact row_cell hr rfl) (Br.mk (fun e2 => ?_) fun e2 => ?_)
    · exact diff_push hB hr hv hw o hs (push (by unfold keepD; rw [e1, e2]; rfl))
    · refine Ld.bytes (v := v) (by rw [add_off]; exact row_cell hr rfl) (Ld.bytes (v := w) (by rw [add_off]; exact row_cell hr rfl) (ct_bytes_Equal (OwnB.bytes hv) (OwnB.bytes hw) (Br.mk (fun e3 => ?_) fun e3 => ?_)))
      · exact diff_push hB hr hv hw o hs (push (by unfold keepD; rw [e1, e2, e3]; rfl))
      · refine r _ _ ?_ (Ext.refl _ _)
        have : keepD d = false := by unfold keepD; rw [e1, e2, e3]; rfl
        rw [this]; simpa using o

theorem hd_at {s : Sl} {l : List Pr} {H : Mem} (a : PairsAt H s l) {p : Pr} {m : List Pr} (e : l = p :: m) : ∃ ad v, s.a = some ad ∧ cellAt H (ad.add 0) = some (.string p.key) ∧ cellAt H ((ad.add 0).add 1) = some (sval v) ∧ BytesSl H v p.val := by
  subst e
  obtain ⟨ad, ha, v, hc, hb⟩ := a.at_ 0 p rfl
  exact ⟨ad, v, ha, hc 0 _ rfl, hc 1 _ rfl, hb⟩

def pCheck (l : List Pr) : Int := if Right l then 0 else 11
theorem ct_plain_Check' {s : Sl} {l : List Pr} {Q : Int → Mem → Prop} (a : PairsAt h s l) (hl : l.length ≤ 140737488355328) (q : ∀ h', Ext h.size h h' → Q (pCheck l) h') : CallF PG fn_plain_Check [sval s] (.one (.leaf (.int .i64))) h Q :=
  ct_plain_Check a hl (fun r h' x => by have := q h' x; unfold pCheck at this; rw [if_pos r] at this; exact this) fun r h' x => by have := q h' x; unfold pCheck at this; rw [if_neg r] at this; exact this

abbrev nilS : Sl := ⟨none, 0, 0⟩
/-- a difference's variable -/
def VarD (H : Mem) (k : Nat) (key : ByteArray) (was is : Bool) (v w : Sl) : Prop := H[k]? = some (.cells (dcells key was is v w).toArray ty_api_Diff (0, 0))

theorem ct_plain_Differ {s t : Sl} {A B : List Pr} {Q : Sl → Mem → Prop} (a : PairsAt h s A) (b : PairsAt h t B) (hs : s.len ≤ s.cap) (ht : t.len ≤ t.cap) (hl : A.length + B.length ≤ 4194304)
    (q : ∀ s' h', Ext h.size h h' → OwnD h' h.size s' (pDiffer A B) → Q s' h') : CallF PG fn_plain_Differ [sval s, sval t] (.one (.leaf .sl)) h Q := by
  refine call_plain_Differ (ct_plain_Check' a (by omega) fun h2 x2 => ⟨fun c h' => c = !decide (Right A ∧ Right B) ∧ Ext h.size h h', ?_, ?_⟩)
  rotate_left
  · refine Br.mk (fun e => ⟨?_, x2⟩) fun e => ct_plain_Check' (b.ext x2) (by omega) fun h3 x3 => ⟨?_, x2.after x3⟩
    · have : ¬ Right A := fun r => by unfold pCheck at e; rw [if_pos r] at e; cases e
      simp [this]
    · have r : Right A := by
        by_cases r : Right A
        · exact r
        · unfold pCheck at e; rw [if_neg r] at e; cases e
      unfold pCheck
      by_cases r2 : Right B
      · rw [if_pos r2]; simp [r, r2]
      · rw [if_neg r2]; simp [r2]
  rintro _ c h6 ⟨rfl, x6⟩
  refine Br.mk (fun e => ?_) fun e => ?_
  · have nr : ¬ (Right A ∧ Right B) := fun h0 => by simp [h0] at e
    refine q _ _ x6 ?_
    unfold pDiffer
    rw [if_neg nr]; exact OwnL.nil _ _ _ _ _ _
  have rr : Right A ∧ Right B := by simpa using e
  have eD : pDiffer A B = pDiff A B := if_pos rr
  rw [eD] at q
  obtain ⟨rA, rB⟩ := rr
  refine ⟨fun s10 s11 s12 H => ∃ (A' B' : List Pr) (ol : List Df), PairsAt h s10 A' ∧ s10.len ≤ s10.cap ∧ PairsAt h s11 B' ∧ s11.len ≤ s11.cap ∧ Right A' ∧ Right B' ∧ A'.length + B'.length + ol.length ≤ A.length + B.length ∧ Ext h.size h H ∧ OwnD H h.size s12 ol ∧ ol ++ pDiff A' B' = pDiff A B,
    fun s10 s11 _ _ => s10.len + s11.len, ⟨A, B, [], a, hs, b, ht, rA, rB, by simp, x6, OwnL.nil _ _ _ _ _ _, rfl⟩, ?_⟩
  rintro _ s10 s11 out H ⟨A', B', ol, a', hs', b', ht', rA', rB', hle, x, o, hd⟩
  have la := a'.len
  have lb := b'.len
  refine ⟨fun c h' => c = !decide (A' = [] ∧ B' = []) ∧ h' = H, ?_, ?_⟩
  rotate_left
  · refine Br.mk (fun e => ⟨?_, rfl⟩) fun e => ⟨?_, rfl⟩
    · simp only [decide_eq_true_eq] at e
      have : A' ≠ [] := fun h0 => by rw [h0] at la; simp at la; omega
      simp [this]
    · simp only [decide_eq_false_iff_not] at e
      have h0 : A' = [] := List.eq_nil_of_length_eq_zero (by omega)
      cases B' with
      | nil => simp [h0, lb]
      | cons q m => rw [List.length_cons] at lb; simp [lb]
  rintro _ c H' ⟨rfl, e⟩
  obtain rfl := e.symm
  refine Br.mk (fun hne => ?_) fun he => ?_
  rotate_left
  · have he : A' = [] ∧ B' = [] := by simpa using he
    obtain ⟨rfl, rfl⟩ := he
    rw [pDiff_nil, List.append_nil] at hd
    rw [← hd] at q
    exact q out H x o
  have hne : ¬ (A' = [] ∧ B' = []) := fun h0 => by simp [h0] at hne
  have hstep := pDiff_step hne
  have hlt := next_lt hne
  refine New.go fun h19 _ x19 z19 r19 => ?_
  have r19 : VarD h19 H.size emp false false nilS nilS := r19
  have k0 : ∀ n, (Addr.mk H.size 0 none).add n = ⟨H.size, n, none⟩ := fun n => by rw [add_off, Nat.zero_add]
  refine ⟨fun H1 => Ext H.size H H1 ∧ VarD H1 H.size (bif wasOf A' B' then (hdP A').key else emp) (wasOf A' B') false nilS nilS, ?_, ?_⟩
  rotate_left
  · refine ⟨fun c h' => c = wasOf A' B' ∧ h' = h19, ?_, ?_⟩
    · rintro _ c h' ⟨rfl, e⟩
      obtain rfl := e.symm
      refine Br.mk (fun e1 => ?_) fun e1 => ⟨x19, by rw [e1]; exact r19⟩
      obtain ⟨p, l, eA⟩ := was_ne e1
      obtain ⟨ad, v, ha, hk, hv, hb⟩ := hd_at (a'.ext (x.after x19)) eA
      have h0 : 0 < s10.len := by rw [la, eA]; simp
      refine ⟨ad, ha, by omega, by omega, Ld.key hk (St.at und_str sz_str rfl rfl r19 (by simp [dcells]) fun h1 u1 r1 => ?_)⟩
      rw [k0]
      refine St.at und_bool sz_bool rfl rfl r1 (by simp [dcells]) fun h2 u2 r2 => ⟨x19.trans ((u1.ext (Nat.le_refl _)).trans (u2.ext (Nat.le_refl _))), ?_⟩
      rw [e1, eA]; exact r2
    · cases A' with
      | nil => exact Br.f (by rw [la]; rfl) ⟨rfl, rfl⟩
      | cons p l =>
        rw [List.length_cons] at la
        refine Br.t (by simp; omega) ?_
        cases B' with
        | nil => exact Br.t (by rw [lb]; rfl) ⟨rfl, rfl⟩
        | cons q' m =>
          rw [List.length_cons] at lb
          refine Br.f (by simp; omega) ?_
          obtain ⟨ad, v, ha, hk, _, _⟩ := hd_at (a'.ext (x.after x19)) rfl
          obtain ⟨ad', v', ha', hk', _, _⟩ := hd_at (b'.ext (x.after x19)) rfl
          exact ⟨ad, ha, by omega, by omega, Ld.key hk ⟨ad', ha', by omega, by omega, Ld.key hk' ⟨sLt_or _ _, rfl⟩⟩⟩
  rintro _ H1 ⟨y1, v1⟩
  refine ⟨fun H2 => Ext H.size H H2 ∧ VarD H2 H.size (dOf A' B').key (wasOf A' B') (wasOf B' A') nilS nilS, ?_, ?_⟩
  rotate_left
  · refine ⟨fun c h' => c = wasOf B' A' ∧ h' = H1, ?_, ?_⟩
    · rintro _ c h' ⟨rfl, e⟩
      obtain rfl := e.symm
      refine Br.mk (fun e1 => ?_) fun e1 => ⟨y1, by
        have ek : (dOf A' B').key = (bif wasOf A' B' then (hdP A').key else emp) := by unfold dOf; rw [e1]; rfl
        rw [ek, e1]; exact v1⟩
      obtain ⟨p, l, eB⟩ := was_ne e1
      obtain ⟨ad, v, ha, hk, hv, hb⟩ := hd_at (b'.ext (x.after y1)) eB
      have h0 : 0 < s11.len := by rw [lb, eB]; simp
      refine ⟨ad, ha, by omega, by omega, Ld.key hk (St.at und_str sz_str rfl rfl v1 (by simp [dcells]) fun h1 u1 r1 => ?_)⟩
      rw [k0]
      refine St.at und_bool sz_bool rfl rfl r1 (by simp [dcells]) fun h2 u2 r2 => ⟨y1.trans ((u1.ext (Nat.le_refl _)).trans (u2.ext (Nat.le_refl _))), ?_⟩
      have ek : (dOf A' B').key = p.key := by unfold dOf; rw [e1, eB]; rfl
      rw [ek, e1]; exact r2
    · cases B' with
      | nil => exact Br.f (by rw [lb]; rfl) ⟨rfl, rfl⟩
      | cons q' m =>
        rw [List.length_cons] at lb
        refine Br.t (by simp; omega) ?_
        cases A' with
        | nil => exact Br.t (by rw [la]; rfl) ⟨rfl, rfl⟩
        | cons p l =>
          rw [List.length_cons] at la
          refine Br.f (by simp; omega) ?_
          obtain ⟨ad, v, ha, hk, _, _⟩ := hd_at (a'.ext (x.after y1)) rfl
          obtain ⟨ad', v', ha', hk', _, _⟩ := hd_at (b'.ext (x.after y1)) rfl
          exact ⟨ad', ha', by omega, by omega, Ld.key hk' ⟨ad, ha, by omega, by omega, Ld.key hk ⟨sLt_or _ _, rfl⟩⟩⟩
  rintro _ H2 ⟨y2, v2⟩
  refine ⟨fun s28 H3 => ∃ v, Ext H.size H H3 ∧ VarD H3 H.size (dOf A' B').key (wasOf A' B') (wasOf B' A') v nilS ∧ OwnB H3 h.size ty_uint8 v (dOf A' B').old ∧ PairsAt h s28 (nextA A' B') ∧ s28.len ≤ s28.cap, ?_, ?_⟩
  rotate_left
  · refine Ld.flag (v := wasOf A' B') (by rw [add_off]; exact row_cell v2 rfl) (Br.mk (fun e1 => ?_) fun e1 => ?_)
    · obtain ⟨p, l, eA⟩ := was_ne e1
      obtain ⟨ad, v, ha, hk, hv, hb⟩ := hd_at (a'.ext (x.after y2)) eA
      have h0 : 0 < s10.len := by rw [la, eA]; simp
      have hsh : p.val.length ≤ 140737488355328 := rA'.short 0 p (by rw [eA]; rfl)
      refine ⟨ad, ha, by omega, by omega, Ld.bytes hv (ct_Clone hb hsh fun w h3 x3 ow => ?_)⟩
      have hz := y2.size
      have v3 : VarD h3 H.size (dOf A' B').key (wasOf A' B') (wasOf B' A') nilS nilS := (x3.block _ (by have := v2; unfold VarD at this; exact (Array.getElem?_eq_some_iff.1 this).1)).trans v2
      rw [k0]
      refine St.at und_bytes sz_bytes rfl rfl v3 (by simp [dcells]) fun h4 u4 r4 => ?_
      refine Cut.lo (n := 1) (by omega) ?_
      rw [eA] at a'
      obtain ⟨t1, t2⟩ := a'.tail hs'
      refine ⟨w, y2.trans ((x3.less hz).trans (u4.ext (Nat.le_refl _))), r4, ?_, ?_, t2⟩
      · have : (dOf A' B').old = p.val := by unfold dOf; rw [e1, eA]; rfl
        rw [this]
        refine (Owns.kept ow fun ad' ha' => u4.block _ fun e => ?_).base (Nat.le_trans x.size hz)
        have h5 := (Owns.blk ow ha').1
        have h6 : H.size < H2.size := (Array.getElem?_eq_some_iff.1 v2).1
        omega
      · have : nextA A' B' = l := by unfold nextA; rw [e1, eA]; rfl
        rw [this]; exact t1
    · refine ⟨nilS, y2, v2, ?_, ?_, hs'⟩
      · have : (dOf A' B').old = [] := by unfold dOf; rw [e1]; rfl
        rw [this]; exact Owns.nil _ _ _ _
      · have : nextA A' B' = A' := by unfold nextA; rw [e1]; rfl
        rw [this]; exact a'
  rintro _ s28 H3 ⟨v, y3, v3, ov, a3, hs3⟩
  have l3 := a3.len
  have hB3 : h.size ≤ H3.size := (x.after y3).size
  have hH3 : H.size < H3.size := (Array.getElem?_eq_some_iff.1 v3).1
  have hst : (stepD A' B').length ≤ 1 := by unfold stepD; cases keepD (dOf A' B') <;> simp
  have fin : ∀ (s36 : Sl), PairsAt h s36 (nextA B' A') → s36.len ≤ s36.cap → ∀ out' h', OwnD h' h.size out' (ol ++ stepD A' B') → Ext h.size h h' →
      (∃ (A' B' : List Pr) (ol : List Df), PairsAt h s28 A' ∧ s28.len ≤ s28.cap ∧ PairsAt h s36 B' ∧ s36.len ≤ s36.cap ∧ Right A' ∧ Right B' ∧ A'.length + B'.length + ol.length ≤ A.length + B.length ∧ Ext h.size h h' ∧ OwnD h' h.size out' ol ∧ ol ++ pDiff A' B' = pDiff A B) ∧
        s28.len + s36.len < s10.len + s11.len := by
    intro s36 b3 ht3 out' h' o' x'
    have l4 := b3.len
    refine ⟨⟨nextA A' B', nextA B' A', ol ++ stepD A' B', a3, hs3, b3, ht3, rA'.next, rB'.next, ?_, x', o', ?_⟩, by omega⟩
    · rw [List.length_append]; omega
    · rw [List.append_assoc, ← hstep]; exact hd
  refine Ld.flag (v := wasOf B' A') (by rw [add_off]; exact row_cell v3 rfl) (Br.mk (fun e1 => ?_) fun e1 => ?_)
  · obtain ⟨p, l, eB⟩ := was_ne e1
    obtain ⟨ad, v', ha, hk, hv, hb⟩ := hd_at (b'.ext (x.after y3)) eB
    have h0 : 0 < s11.len := by rw [lb, eB]; simp
    have hsh : p.val.length ≤ 140737488355328 := rB'.short 0 p (by rw [eB]; rfl)
    refine ⟨ad, ha, by omega, by omega, Ld.bytes hv (ct_Clone hb hsh fun w h4 x4 ow => ?_)⟩
    have v4 : VarD h4 H.size (dOf A' B').key (wasOf A' B') (wasOf B' A') v nilS := (x4.block _ hH3).trans v3
    rw [k0]
    refine St.at und_bytes sz_bytes rfl rfl v4 (by simp [dcells]) fun h5 u5 r5 => ?_
    refine Cut.lo (n := 1) (by omega) ?_
    rw [eB] at b'
    obtain ⟨t1, t2⟩ := b'.tail ht'
    have en : nextA B' A' = l := by unfold nextA; rw [e1, eB]; rfl
    have eo : (dOf A' B').new = p.val := by unfold dOf; rw [e1, eB]; rfl
    have kb : KeepB h4 h5 := Upd.keepB u5 v4 (by decide)
    have x35 : Ext h.size H3 h5 := (x4.less hB3).trans (u5.ext x.size)
    refine diff_tail (d := dOf A' B') (v := v) (w := w) (Nat.le_trans hB3 (Nat.le_trans x4.size (Nat.le_of_eq u5.size.symm))) r5 (OwnB.keep (Owns.ext ov x4) kb) ?_ ?_ (by omega) fun out' h' o' x' => fin _ ?_ t2 out' h' o' (((x.after y3).trans x35).trans x')
    · rw [eo]; exact OwnB.keep (Owns.base ow hB3) kb
    · have o4 := (o.ext EDf.stab y3).ext EDf.stab x4
      obtain ⟨css, oo, hh⟩ := o4
      refine ⟨css, Owns.kept oo fun ad' ha' => u5.block _ fun e => ?_, hh.keep EDf.stab kb⟩
      obtain ⟨css0, oo0, _⟩ := o
      have := (oo0.blk ha').2.1
      omega
    · rw [en]; exact t1
  · have en : nextA B' A' = B' := by unfold nextA; rw [e1]; rfl
    have eo : (dOf A' B').new = [] := by unfold dOf; rw [e1]; rfl
    refine diff_tail (d := dOf A' B') (v := v) (w := nilS) hB3 v3 ov (by rw [eo]; exact Owns.nil _ _ _ _) (o.ext EDf.stab y3) (by omega) fun out' h' o' x' => fin s11 (by rw [en]; exact b') ht' out' h' o' ((x.after y3).trans x')
end
end Go.Dn.W
