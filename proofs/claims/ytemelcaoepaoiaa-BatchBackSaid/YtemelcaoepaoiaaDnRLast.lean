/- The document's Last tells the last operation of each key. -/
import Derived.Test.YtemelcaoepaoiaaDnLast
import Derived.Test.YtemelcaoepaoiaaDnWG
set_option linter.unusedVariables false
namespace Go.Dn.W
open Go Go.Dn Go.Proofs

section
variable {α : Type} {e size : Nat} {E : ElemRel α} {h : Mem} {B' B : Nat} {s : Sl} {l : List α}

theorem LHeads.set {css : List (List Value)} (x : LHeads size E h B css l) {i : Nat} (hi : i < l.length) {cs : List Value} {y : α} (hw : cs.length = size) (h1 : ∀ u ∈ cs, u.oneCell' = true) (he : E h B cs y) : LHeads size E h B (css.set i cs) (l.set i y) := by
  have hi' : i < css.length := by rw [x.len]; exact hi
  rw [set_split _ hi, set_split _ hi']
  have := ((x.take i).snoc hw h1 he).append (x.drop (i + 1))
  simpa using this
theorem take_mid {A cs : List Value} {i3 n3 m : Nat} (hn : n3 ≤ A.length) (hm : cs.length = m) (hi : i3 + m ≤ n3) : (A.take i3 ++ cs ++ A.drop (i3 + m)).take n3 = (A.take n3).take i3 ++ cs ++ (A.take n3).drop (i3 + m) := by
  have e1 : (A.take i3).length = i3 := by rw [List.length_take]; omega
  rw [List.take_append, List.take_append, List.length_append, e1, hm, List.take_take, List.take_take, List.drop_take, Nat.min_eq_right (by omega), Nat.min_eq_left (by omega), List.take_of_length_le (l := cs) (by omega)]

theorem OwnL.cutHi (x : OwnL e size E h B' B s l) (hs : 0 < size) {j : Nat} (hj : j ≤ l.length) : ∃ css', (∀ a, s.a = some a → Cells h a css'.flatten) ∧ LHeads size E h B css' (l.take j) ∧ (s.a = none → j = 0 ∧ s.cap = 0) := by
  have hlen := x.len hs
  obtain ⟨css, o, hh⟩ := x
  refine ⟨css.take j, fun a ha i v hv => ?_, hh.take j, fun hn => ?_⟩
  · rw [← flatten_take j hh.width] at hv
    rw [List.getElem?_take] at hv
    split at hv
    · exact o.cells ha i v hv
    · cases hv
  · have := Owns.nil0 o hn; omega
theorem OwnL.cutLo (x : OwnL e size E h B' B s l) (hs : 0 < size) {j : Nat} (hj : j ≤ l.length) :
    ∃ css', (∀ a, (cutSl size s.a j s.len s.cap).a = some a → Cells h a css'.flatten) ∧ LHeads size E h B css' (l.drop j) ∧ ((cutSl size s.a j s.len s.cap).a = none → (cutSl size s.a j s.len s.cap).len = 0 ∧ (cutSl size s.a j s.len s.cap).cap = 0) := by
  have hlen := x.len hs
  obtain ⟨css, o, hh⟩ := x
  have hle := Owns.le o
  refine ⟨css.drop j, fun a ha i v hv => ?_, hh.drop j, fun hn => ?_⟩
  · rw [← flatten_drop j hh.width] at hv
    rw [List.getElem?_drop] at hv
    unfold cutSl at ha
    dsimp only at ha
    split at ha
    · exfalso
      have hlt := (List.getElem?_eq_some_iff.1 hv).1
      rw [flatten_length hh.width, hh.len] at hlt
      have : l.length = j := by omega
      rw [this] at hlt; omega
    · cases hs' : s.a with
      | none => rw [hs'] at ha; cases ha
      | some a0 =>
        rw [hs'] at ha
        obtain ⟨g, rfl⟩ := o.addr hs'
        cases ha
        have := o.cells hs' _ v hv
        rw [add_off] at this
        show cellAt h (((⟨g, 0, none⟩ : Addr).add (j * size)).add i) = some v
        rw [add_off, add_off]
        simpa [Nat.add_assoc] using this
  · unfold cutSl at hn ⊢
    dsimp only at hn ⊢
    cases hs' : s.a with
    | none =>
      have := Owns.nil0 o hs'
      omega
    | some a0 => rw [hs'] at hn; split at hn <;> cases hn
end

theorem OwnO.setAt {h : Mem} {B : Nat} {s : Sl} {l : List Opn} (x : OwnO h B s l) {i : Nat} (hi : i < l.length) {o : Opn} {v : Sl} (hv : OwnB h B ty_uint8 v o.val) {K : Mem → Prop} (hk : ∀ h', OwnO h' B s (l.set i o) → Ext B h h' → K h') :
    ∃ a, s.a = some a ∧ St PG ty_api_Op (a.add (i * 3)) (.agg #[.string o.key, .slice v.a v.len v.cap, .bool o.del]) h K := by
  have hlen := x.len (by decide)
  obtain ⟨css, ow, hh⟩ := x
  obtain ⟨t, hd⟩ := und_op
  rcases ow.2 with ⟨_, h0⟩ | ⟨g, cap, cur, hv', hB, hg, hc, hm, hcs, htk⟩
  · omega
  · simp only [Value.slice.injEq] at hv'
    obtain ⟨hva, _, hvc⟩ := hv'
    have hg : h[g]? = some (.cells cur ty_api_Op (0, 0)) := hg
    refine ⟨_, hva, ?_⟩
    rw [add_off, Nat.zero_add]
    have hfit : i * 3 + 3 ≤ cur.size := by rw [hcs, ← hvc]; have := hvc ▸ hc; omega
    refine St.row hd (vs := ocells o.key v o.del) rfl sz_op (one_ocells _ _ _) hg hfit fun h' u r => ?_
    have hi' : i < css.length := by rw [hh.len]; exact hi
    have kb := Upd.keepB u hg (by decide)
    refine hk h' ⟨css.set i (ocells o.key v o.del), ⟨?_, .inr ⟨g, cap, _, by rw [hva, hvc], hB, r, hc, hm, ?_, ?_⟩⟩, (hh.keep EOp.stab kb).set hi rfl (one_ocells _ _ _) ⟨v, rfl, OwnB.keep hv kb⟩⟩ (u.ext hB)
    · have hw : ∀ cs ∈ css.set i (ocells o.key v o.del), cs.length = 3 := fun cs hcs' => (List.mem_or_eq_of_mem_set hcs').elim (hh.width cs) fun e => e ▸ rfl
      rw [flatten_length hw, List.length_set, hh.len, hlen]
    · simp only [List.size_toArray, List.length_append, List.length_take, List.length_drop, Array.length_toList]
      show min (i * 3) cur.size + 3 + (cur.size - (i * 3 + 3)) = _
      omega
    · show ((cur.toList.take (i * 3) ++ ocells o.key v o.del ++ cur.toList.drop (i * 3 + 3)).take (s.len * 3)) = _
      rw [take_mid (m := 3) (i3 := i * 3) (cs := ocells o.key v o.del) (by rw [Array.length_toList, hcs]; exact Nat.mul_le_mul_right 3 hc) rfl (by omega), htk, set_split _ hi', flatten_take i hh.width, show i * 3 + 3 = (i + 1) * 3 by omega, flatten_drop (i + 1) hh.width]
      simp

theorem RisesO.lt {l : List Opn} (r : RisesO l) {i j : Nat} {p q : Opn} (hij : i < j) (hp : l[i]? = some p) (hq : l[j]? = some q) : sLt p.key q.key = true := by
  unfold RisesO at r
  rw [List.pairwise_iff_getElem] at r
  obtain ⟨hi, rfl⟩ := List.getElem?_eq_some_iff.1 hp
  obtain ⟨hj, rfl⟩ := List.getElem?_eq_some_iff.1 hq
  exact r i j hi hj hij

/-- where an operation goes in -/
structure Goes (out : List Opn) (o : Opn) (j : Nat) : Prop where
  le : j ≤ out.length
  below : ∀ (i : Nat) (p : Opn), i < j → out[i]? = some p → sLt p.key o.key = true
  stop : ∀ p, out[j]? = some p → sLt p.key o.key = false
section
variable {out : List Opn} {o : Opn} {j : Nat}
theorem Goes.lo (g : Goes out o j) (r : RisesO out) : out.filter (fun p => sLt p.key o.key) = out.take j := by
  refine filter_take g.below fun i x hi hx => ?_
  rcases Nat.lt_or_eq_of_le hi with hlt | rfl
  · obtain ⟨p, hp⟩ : ∃ p, out[j]? = some p := ⟨_, List.getElem?_eq_getElem (by have := (List.getElem?_eq_some_iff.1 hx).1; omega)⟩
    have h1 := r.lt hlt hp hx
    cases h2 : sLt x.key o.key with
    | false => rfl
    | true => have := g.stop p hp; rw [sLt_trans h1 h2] at this; cases this
  · exact g.stop x hx
theorem Goes.put (g : Goes out o j) (r : RisesO out) {p : Opn} (hp : out[j]? = some p) (hk : p.key = o.key) : out.set j o = insO out o := by
  have hj := (List.getElem?_eq_some_iff.1 hp).1
  unfold insO
  rw [g.lo r, set_split o hj, filter_drop (n := j + 1) (fun i x hi hx => ?_) fun i x hi hx => ?_]
  · simp
  · rcases Nat.lt_or_eq_of_le (Nat.le_of_lt_succ hi) with hlt | rfl
    · exact sLt_asymm (g.below i x hlt hx)
    · rw [hp] at hx; cases hx; rw [hk, sLt_irrefl]
  · rw [← hk]; exact r.lt (by omega) hp hx
theorem Goes.new (g : Goes out o j) (r : RisesO out) (hn : ∀ p, out[j]? = some p → p.key ≠ o.key) : out.take j ++ [o] ++ out.drop j = insO out o := by
  unfold insO
  rw [g.lo r, filter_drop (n := j) (fun i x hi hx => sLt_asymm (g.below i x hi hx)) fun i x hi hx => ?_]
  obtain ⟨p, hp⟩ : ∃ p, out[j]? = some p := ⟨_, List.getElem?_eq_getElem (by have := (List.getElem?_eq_some_iff.1 hx).1; omega)⟩
  have h1 := sLt_of_not (g.stop p hp) (hn p hp)
  rcases Nat.lt_or_eq_of_le hi with hlt | rfl
  · exact sLt_trans h1 (r.lt hlt hp hx)
  · rw [hp] at hx; cases hx; exact h1
end

theorem rl_join {h : Mem} {B k : Nat} {s : Sl} {out : List Opn} {o : Opn} {c : Sl} {j : Nat} {b : Bool} {K : Sl → Mem → Prop} (hB : B ≤ h.size) (x : OwnO h B s out) (r : RisesO out)
    (hk : h[k]? = some (.cells #[.string o.key, sval c, .bool o.del] ty_api_Op (0, 0))) (hc : OwnB h B ty_uint8 c o.val) (g : Goes out o j) (hb : b = true ↔ ∃ p, out[j]? = some p ∧ p.key = o.key) (hs : (out.length + 1) * 48 ≤ 140737488355328)
    (q : ∀ s' h', OwnO h' B s' (insO out o) → Ext B h h' → K s' h') :
    Br b
      (Deref (some ⟨k, 0, none⟩) fun (p58 : Addr) =>
        Ld PG ty_api_Op p58 (Kd.one (Cmp.agg [Leaf.str, Leaf.sl, Leaf.bool])) h fun (t59 : ByteArray) (s60 : Sl) (b61 : Bool) =>
          Idx s.a s.len (j : Int) fun (p62 : Addr) =>
            St PG ty_api_Op (p62.add ((j : Int).toNat * 3)) (Value.agg #[Value.string t59, Value.slice s60.a s60.len s60.cap, Value.bool b61]) h
              fun (h63 : Mem) => K (Sl.mk s.a s.len s.cap) h63)
      (Cut 3 s.a s.len s.cap none (some (j : Int)) none fun (s64 : Sl) =>
        PrimT PG (Builtin.append_ #[ty_sl_api_Op, ty_sl_api_Op] ty_sl_api_Op #[Value.slice none 0 0, Value.slice s64.a s64.len s64.cap]) (Kd.one (Cmp.leaf Leaf.sl))
          h fun (s65 : Sl) (h66 : Mem) =>
          Deref (some ⟨k, 0, none⟩) fun (p67 : Addr) =>
            Ld PG ty_api_Op p67 (Kd.one (Cmp.agg [Leaf.str, Leaf.sl, Leaf.bool])) h66 fun (t68 : ByteArray) (s69 : Sl) (b70 : Bool) =>
              New (Obj.cells #[Value.string t68, Value.slice s69.a s69.len s69.cap, Value.bool b70] ty_api_Op) h66 fun (k71 : Nat) (h72 : Mem) =>
                PrimT PG
                  (Builtin.append_ #[ty_sl_api_Op, ty_sl_api_Op] ty_sl_api_Op
                    #[Value.slice s65.a s65.len s65.cap, Value.slice (some (Addr.mk k71 0 none)) 1 1])
                  (Kd.one (Cmp.leaf Leaf.sl)) h72 fun (s73 : Sl) (h74 : Mem) =>
                  Cut 3 s.a s.len s.cap (some (j : Int)) none none fun (s75 : Sl) =>
                    PrimT PG (Builtin.append_ #[ty_sl_api_Op, ty_sl_api_Op] ty_sl_api_Op #[Value.slice s73.a s73.len s73.cap, Value.slice s75.a s75.len s75.cap])
                      (Kd.one (Cmp.leaf Leaf.sl)) h74 fun (s76 : Sl) (h77 : Mem) => K (Sl.mk s76.a s76.len s76.cap) h77) := by
  have hlen := x.len (by decide)
  have hjl := g.le
  have hcap : s.len ≤ s.cap := by obtain ⟨_, ow, _⟩ := x; exact Owns.le ow
  refine Br.mk (fun e => ?_) fun e => ?_
  · obtain ⟨p, hp, hpk⟩ := hb.1 e
    have hj := (List.getElem?_eq_some_iff.1 hp).1
    show Ld _ _ _ _ _ _
    refine Ld.op (Cells.whole hk) ?_
    obtain ⟨a, ha, st⟩ := x.setAt hj hc (K := fun h63 => K ⟨s.a, s.len, s.cap⟩ h63) fun h' o' e' => q _ _ (by rw [← g.put r hp hpk]; exact o') e'
    refine Idx.mk ha (by omega) ?_
    rw [nat_mul]
    exact st
  · have hn : ∀ p, out[j]? = some p → p.key ≠ o.key := fun p hp hpk => by
      have := hb.2 ⟨p, hp, hpk⟩; rw [e] at this; cases this
    refine Cut.hi (by omega) ?_
    rw [cutSl_zero]
    obtain ⟨css1, c1, l1, n1⟩ := x.cutHi (by decide) hjl
    refine OwnL.pushAll (bytes := 48) (s := ⟨none, 0, 0⟩) (v := ⟨s.a, j, s.cap⟩) (B' := h.size) (B := B) und_ops info_op (by decide) EOp.stab (Nat.le_refl _) (OwnL.nil _ _ _ _ _ _) c1 (by rw [List.length_take]; show j = _; omega) n1 l1 (by decide) (by decide) (by rw [List.length_take, List.length_nil]; omega) fun s65 h66 o66 x66 _ _ => ?_
    show Ld _ _ _ _ _ _
    have hk66 := (x66.block k (Array.getElem?_eq_some_iff.1 hk).1).trans hk
    refine Ld.op (Cells.whole hk66) (New.go fun h72 _ x72 z72 r72 => ?_)
    have xx72 : Ext h.size h h72 := x66.trans (x72.less x66.size)
    refine OwnL.push (bytes := 48) und_ops info_op (by decide) EOp.stab (by have := xx72.size; omega) (o66.ext EOp.stab x72) (Cells.whole (cs := ocells o.key c o.del) r72) rfl (one_ocells _ _ _) ⟨c, rfl, Owns.ext hc xx72⟩ (by decide) (by decide) (by rw [List.nil_append, List.length_take]; omega) fun s73 h74 o74 x74 _ _ => ?_
    have xx74 : Ext h.size h h74 := xx72.trans x74
    have od74 := x.ext EOp.stab xx74
    refine Cut.lo (by omega) ?_
    obtain ⟨css2, c2, l2, n2⟩ := od74.cutLo (by decide) hjl
    refine OwnL.pushAll (bytes := 48) und_ops info_op (by decide) EOp.stab xx74.size o74 c2 (by rw [List.length_drop]; show s.len - j = _; omega) n2 l2 (by decide) (by decide) (by simp only [List.nil_append, List.length_append, List.length_take, List.length_drop, List.length_cons, List.length_nil]; omega) fun s76 h77 o77 x77 _ _ => ?_
    refine q _ _ ?_ ((xx74.trans x77).less hB)
    rw [← g.new r hn]
    rw [List.nil_append] at o77
    exact o77.base hB fun _ _ h => h

section
variable {h : Mem}

theorem ct_ref10_Last {s : Sl} {l : List Opn} {Q : Sl → Mem → Prop} (a : OpsAt h s l) (hv : ShortO l) (hkk : ∀ o ∈ l, o.key.size ≤ 140737488351232) (hl : l.length * 48 ≤ 140737488355328)
    (q : ∀ s' h', Ext h.size h h' → OwnO h' h.size s' (pLast l) → Q s' h') : CallF PG fn_dunnageref10_Last [sval s] (.one (.leaf .sl)) h Q := by
  refine call_dunnageref10_Last ?_
  refine ⟨fun t n h' => ∃ i : Nat, n = (i : Int) ∧ i ≤ l.length ∧ Ext h.size h h' ∧ OwnO h' h.size t (pLast (l.take i)), fun _ n _ => l.length - n.toNat, ⟨0, rfl, Nat.zero_le _, Ext.refl _ _, OwnL.nil _ _ _ _ _ _⟩, ?_⟩
  rintro _ t n h6 ⟨i, rfl, hi, x6, ot⟩
  refine Br.mk (fun e => ?_) fun e => ?_
  · simp only [decide_eq_true_eq] at e
    rw [a.len] at e
    obtain ⟨o, ho⟩ : ∃ o, l[i]? = some o := ⟨_, List.getElem?_eq_getElem (by omega)⟩
    have htk : l.take (i + 1) = l.take i ++ [o] := by rw [List.take_add_one, ho]; rfl
    have hlen := ot.len (by decide)
    have hol := pLast_length (l.take i)
    rw [List.length_take, Nat.min_eq_left hi] at hol
    refine ⟨fun s' h' => Ext h.size h h' ∧ OwnO h' h.size s' (pLast (l.take (i + 1))), ?_, ?_⟩
    · rintro _ s9 h10 ⟨x10, o10⟩
      rw [wrap_succ (by omega)]
      exact ⟨⟨i + 1, rfl, by omega, x10, o10⟩, by simp only [Int.toNat_natCast]; omega⟩
    refine ⟨fun p h' => ∃ (k : Nat) (c : Sl), p = some ⟨k, 0, none⟩ ∧ Ext h6.size h6 h' ∧ h'[k]? = some (.cells #[.string o.key, sval c, .bool o.del] ty_api_Op (0, 0)) ∧ OwnB h' h.size ty_uint8 c o.val, ?_, ?_⟩
    · rintro _ p h14 ⟨k, c, rfl, x14, hk, hc⟩
      have o14 := ot.ext EOp.stab x14
      have xB : Ext h.size h h14 := x6.trans (x14.less x6.size)
      refine ⟨fun n h' => ∃ j : Nat, n = (j : Int) ∧ h' = h14 ∧ j ≤ (pLast (l.take i)).length ∧ ∀ (i' : Nat) (p : Opn), i' < j → (pLast (l.take i))[i']? = some p → sLt p.key o.key = true, fun n _ => (pLast (l.take i)).length - n.toNat, ⟨0, rfl, rfl, Nat.zero_le _, fun i' p hi' => by omega⟩, ?_⟩
      rintro _ n h19 ⟨j, rfl, rfl, hj, hbl⟩
      have fin : ∀ b : Bool, Goes (pLast (l.take i)) o j → (b = true ↔ ∃ p, (pLast (l.take i))[j]? = some p ∧ p.key = o.key) → _ := fun b g hb =>
        rl_join (h := h19) (B := h.size) (b := b) (K := fun s' h' => Ext h.size h h' ∧ OwnO h' h.size s' (pLast (l.take (i + 1)))) xB.size o14 (pLast_is _).rise hk hc g hb (by omega) fun s' h' o' x' => ⟨xB.trans x', by rw [htk, pLast_snoc]; exact o'⟩
      refine Br.mk (fun e1 => ?_) fun e1 => ?_
      · simp only [decide_eq_true_eq] at e1
        obtain ⟨p, hp⟩ : ∃ p, (pLast (l.take i))[j]? = some p := ⟨_, List.getElem?_eq_getElem (by omega)⟩
        obtain ⟨ad, hda, v, hcv, _⟩ := o14.ops.at_ j p hp
        have hk1 : cellAt h19 (ad.add (j * 3)) = some (.string p.key) := hcv 0 _ rfl
        refine Idx.mk hda (by omega) ?_
        rw [nat_mul]
        refine Ld.key hk1 ?_
        show Ld _ _ _ _ _ _
        refine Ld.key (row_cell hk rfl) (ct_ref_Less (hkk p (List.mem_of_mem_take (pLast_mem (List.mem_of_getElem? hp)))) (Br.mk (fun e2 => ?_) fun e2 => ?_))
        · rw [wrap_succ (by omega)]
          refine ⟨⟨j + 1, rfl, rfl, by omega, fun i' p' hi' hp' => ?_⟩, by simp only [Int.toNat_natCast]; omega⟩
          rcases Nat.lt_or_eq_of_le (Nat.le_of_lt_succ hi') with hlt | rfl
          · exact hbl i' p' hlt hp'
          · rw [hp] at hp'; cases hp'; exact e2
        · have g : Goes (pLast (l.take i)) o j := ⟨hj, hbl, fun p' hp' => by rw [hp] at hp'; cases hp'; exact e2⟩
          refine ⟨fun b h' => b = sEq p.key o.key ∧ h' = h19, ?_, ?_⟩
          · rintro _ b h29 ⟨rfl, rfl⟩
            exact fin _ g ⟨fun hb => ⟨p, hp, sEq_iff.1 hb⟩, fun ⟨p', hp', hk'⟩ => by rw [hp] at hp'; cases hp'; exact sEq_iff.2 hk'⟩
          · refine Br.t (by simp only [decide_eq_true_eq]; exact e1) (Idx.mk hda (by omega) ?_)
            refine Ld.key hk1 ?_
            show Ld _ _ _ _ _ _
            exact Ld.key (row_cell hk rfl) ⟨rfl, rfl⟩
      · simp only [decide_eq_false_iff_not] at e1
        have hn : (pLast (l.take i))[j]? = none := List.getElem?_eq_none (by omega)
        have g : Goes (pLast (l.take i)) o j := ⟨hj, hbl, fun p' hp' => by rw [hn] at hp'; cases hp'⟩
        refine ⟨fun b h' => b = false ∧ h' = h19, ?_, Br.f (by simpa using e1) ⟨rfl, rfl⟩⟩
        rintro _ b h29 ⟨rfl, rfl⟩
        exact fin _ g ⟨fun hb => (by cases hb), fun ⟨p', hp', _⟩ => by rw [hn] at hp'; cases hp'⟩
    · obtain ⟨ad, ha, v, hc, hb⟩ := (a.ext x6).at_ i o ho
      have hk : cellAt h6 (ad.add (i * 3)) = some (.string o.key) := hc 0 _ rfl
      have hvv : cellAt h6 ((ad.add (i * 3)).add 1) = some (sval v) := hc 1 _ rfl
      have hd : cellAt h6 ((ad.add (i * 3)).add 2) = some (.bool o.del) := hc 2 _ rfl
      have ix : ∀ K, K (ad) → Idx s.a s.len (i : Int) K := fun K k => Idx.mk ha (by rw [a.len]; omega) k
      refine ix _ ?_
      rw [nat_mul]
      refine Ld.key hk (ix _ (Ld.bytes hvv (ix _ (Ld.flag hd ⟨?_, ?_⟩))))
      · refine ct_CopyBytes hb (hv i o ho) fun s88 h89 x89 ow => ⟨Ld.flag (x89.cellAt (cellAt_lt hd) hd) rfl, Ld.key (x89.cellAt (cellAt_lt hk) hk) rfl, New.go fun h93 _ x93 z93 r93 => ?_⟩
        have xx : Ext h6.size h6 h93 := x89.trans (x93.less x89.size)
        refine ⟨Ld.flag (xx.cellAt (cellAt_lt hd) hd) rfl, Ld.key (xx.cellAt (cellAt_lt hk) hk) rfl, St.op (v0 := ⟨none, 0, 0⟩) r93 fun h96 u96 r96 => ⟨_, s88, rfl, xx.trans (u96.ext x89.size), r96, ?_⟩⟩
        exact (Owns.kept (Owns.ext ow x93) fun a' ha' => u96.block _ (by have := (Owns.blk ow ha').2.1; omega)).base x6.size
      · refine New.go fun h98 _ x98 z98 r98 => ⟨Ld.flag (x98.cellAt (cellAt_lt hd) hd) rfl, Ld.bytes (x98.cellAt (cellAt_lt hvv) hvv) rfl, Ld.key (x98.cellAt (cellAt_lt hk) hk) rfl, ct_CopyBytes (hb.ext x98) (hv i o ho) fun s102 h103 x103 ow => ?_⟩
        have xx : Ext h6.size h6 h103 := x98.trans (x103.less x98.size)
        have r103 := (x103.block h6.size (by omega)).trans r98
        refine ⟨Ld.flag (xx.cellAt (cellAt_lt hd) hd) rfl, Ld.key (xx.cellAt (cellAt_lt hk) hk) rfl, St.op (v0 := ⟨none, 0, 0⟩) r103 fun h106 u106 r106 => ⟨_, s102, rfl, xx.trans (u106.ext (Nat.le_refl _)), r106, ?_⟩⟩
        exact (Owns.kept ow fun a' ha' => u106.block _ (by have := (Owns.blk ow ha').1; omega)).base (by have := x6.size; omega)
  · simp only [decide_eq_false_iff_not] at e
    rw [a.len] at e
    have : i = l.length := by omega
    rw [this, List.take_length] at ot
    exact q _ _ x6 ot
end
end Go.Dn.W
