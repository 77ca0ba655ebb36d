/- Maps from strings to numbers that a function makes: made, written, gone through. -/
import Derived.Test.YtemelcaoepaoiaaDnOpl
import Derived.Maps.Range
import Derived.Carry
set_option linter.unusedVariables false
namespace Go.Dn.W
open Go Go.Dn Go.Proofs Go.ChangeMaps Go.Maps

noncomputable abbrev RM : Value → Option (DataW Unit × List MemPlace) := plainElem PG ty_int
theorem wf_i {i : Nat} (hi : i ≤ 9223372036854775807) : (Lit.int .i64 (i : Int)).wf = true := by
  have e : IntKind.i64.min = -9223372036854775808 := by decide
  simp [Lit.wf, e]; omega
def kl (k : ByteArray) : Lit := .string k.data.toList
theorem und_map : PG.underlying ty_map_string_int = some (.map ty_string ty_int) := by kernel_rfl
theorem und_mint : PG.underlying ty_int = some (.int .i64) := by kernel_rfl
theorem und_mstr : PG.underlying ty_string = some .string := by kernel_rfl
theorem KM : Keyed PG ty_string := string_keyed und_mstr
theorem key_kl {k : ByteArray} (hk : k.size ≤ 140737488355328) : keyOf PG ty_string (.string k) = some (kl k) := Go.WideMaps.keyOf_string_mk und_mstr (by simp only [maxLen]; omega)
theorem kl_inj {a b : ByteArray} (h : kl a = kl b) : a = b := by
  unfold kl at h
  cases a; cases b
  simp only [Lit.string.injEq, Array.toList_inj] at h
  rw [ByteArray.mk.injEq]; exact Array.toList_inj.1 (by simpa using h)
theorem kl_key (k : ByteArray) : WideAt.IsKeyLit (kl k) := trivial

/-- block b is a map of at most n entries; m tells what lies at each key -/
def MapIs (h : Mem) (b n : Nat) (m : ByteArray → Option Nat) : Prop :=
  ∃ D : DataW Unit, (wOf h).ownsMap PG ty_string RM b n D ∧ IsMap D ∧ ∀ k, has D (kl k) = (m k).isSome ∧ ∀ x, m k = some x → ∀ z, D.atKey (kl k) z = .lit (.int .i64 (x : Int))

section
variable {h : Mem} {b n : Nat} {m : ByteArray → Option Nat}
theorem MapIs.lt (x : MapIs h b n m) : b < h.size := let ⟨_, o, _⟩ := x; o.lt
theorem MapIs.keep {h' : Mem} (x : MapIs h b n m) (hb : h'[b]? = h[b]?) : MapIs h' b n m := by
  obtain ⟨D, ⟨es, cl, h1, h2⟩, h3⟩ := x
  exact ⟨D, ⟨es, cl, hb.trans h1, h2⟩, h3⟩
theorem MapIs.map {t : TypeId} {K : Option Nat → Mem → Prop} (hk : ∀ h', MapIs h' h.size 0 (fun _ => none) → Ext h.size h h' → K (some h.size) h') : PrimT PG (Instr.makeMap t none) (.one (.leaf .map)) h K := by
  intro w hw
  subst hw
  refine ⟨_, _, (rfl : (Instr.makeMap t none).run PG w = .ok (.map (some w.heap.size)) (w.alloc (.map #[] 0))), ⟨rfl, rfl, rfl⟩, [.map (some w.heap.size)], rfl, some w.heap.size, .map _, hk _ ⟨.map [], ?_, ⟨_, rfl⟩, fun k => ⟨rfl, fun x hx => by cases hx⟩⟩ ?_⟩
  · exact World.ownsMap_made w PG ty_string RM
  · have g := World.grownBy_alloc w (.map #[] 0) none
    exact ⟨g.size, fun k hk => g.block k hk (by simp)⟩
theorem MapIs.update {k : ByteArray} {i : Nat} {K : Mem → Prop} (x : MapIs h b n m) (hn : n < 281474976710656) (hk : k.size ≤ 140737488355328) (hi : i ≤ 140737488355328)
    (q : ∀ h', MapIs h' b (n + 1) (fun k' => if k' = k then some i else m k') → Ext b h h' → (∀ j, j < h.size → j ≠ b → h'[j]? = h[j]?) → K h') : PrimU PG (Instr.mapUpdate ty_map_string_int (.map (some b)) (.string k) (.int .i64 (i : Int))) h K := by
  intro w hw
  subst hw
  obtain ⟨D, own, hD, hm⟩ := x
  have own' : w.ownsMap PG ty_string RM b n D := own
  obtain ⟨w', hrun, own2, gr⟩ := own'.update KM und_map (by simp only [maxLen]; omega) (key_kl hk) (plainElem_int und_mint (a := (i : Int)) (wf_i (by omega)))
  refine ⟨(), w', hrun, ⟨gr.os, gr.tape, gr.output⟩, q _ ⟨_, own2, hD.put _ _, fun k' => ?_⟩ ⟨gr.size, fun j hj => gr.block j (Nat.lt_trans hj own'.lt) (by simp; omega)⟩ fun j hj hne => gr.block j hj (by simp [hne])⟩
  by_cases e : k' = k
  · subst e
    dsimp only
    rw [if_pos rfl, has_put_same hD (kl_key _)]
    exact ⟨rfl, fun x hx z => by cases hx; exact atKey_put_same hD (kl_key _) _ _⟩
  · have ne : kl k' ≠ kl k := fun e' => e (kl_inj e')
    dsimp only
    rw [if_neg e, has_put_other ne]
    exact ⟨(hm k').1, fun x hx z => by rw [atKey_put_other ne]; exact (hm k').2 x hx z⟩
end

/-- block r goes through the map in block b; left: the keys that are still to come -/
def RangeIs (h : Mem) (b r : Nat) (m : ByteArray → Option Nat) (left : ByteArray → Bool) (cnt : Nat) : Prop :=
  ∃ (D : DataW Unit) (n : Nat) (lf : Lit → Bool), (wOf h).ranges PG ty_string RM b r n D lf cnt ∧ (∀ k, lf (kl k) = left k) ∧ (∀ k, left k = true → (m k).isSome = true) ∧ ∀ k x, m k = some x → ∀ z, D.atKey (kl k) z = .lit (.int .i64 (x : Int))

section
variable {h : Mem} {b r n cnt : Nat} {m : ByteArray → Option Nat} {left : ByteArray → Bool}
theorem RangeIs.keep {h' : Mem} (x : RangeIs h b r m left cnt) (hb : h'[b]? = h[b]?) (hr : h'[r]? = h[r]?) : RangeIs h' b r m left cnt := by
  obtain ⟨D, n, lf, ⟨es, clock, since, seen, c0, h1, h2, h3, h4, h5, h6⟩, h7⟩ := x
  exact ⟨D, n, lf, ⟨es, clock, since, seen, c0, hb.trans h1, h2, h3, h4, hr.trans h5, h6⟩, h7⟩
theorem RangeIs.lt (x : RangeIs h b r m left cnt) : r < h.size ∧ b < h.size := let ⟨_, _, _, o, _⟩ := x; ⟨o.lt, o.owns.lt⟩
theorem RangeIs.obj (x : RangeIs h b r m left cnt) : (∃ es cl, h[b]? = some (.map es cl)) ∧ ∃ s0 s1 s2 s3, h[r]? = some (.mapIter s0 s1 s2 s3) := by
  obtain ⟨D, n, lf, ⟨es, clock, since, seen, c0, h1, h2, h3, h4, h5, h6⟩, h7⟩ := x
  exact ⟨⟨_, _, h1⟩, _, _, _, _, h5⟩
theorem RangeIs.ext {h' : Mem} (x : RangeIs h b r m left cnt) (e : Ext h.size h h') : RangeIs h' b r m left cnt := x.keep (e.block _ x.lt.2) (e.block _ x.lt.1)
theorem RangeIs.grown {h' : Mem} {B size : Nat} {e : TypeId} {s : Sl} {xs : List Value} (x : RangeIs h b r m left cnt) (o : Owns h B e size s xs) (g : Grown s h h') : RangeIs h' b r m left cnt := by
  obtain ⟨⟨es, cl, h1⟩, s0, s1, s2, s3, h2⟩ := x.obj
  refine x.keep (g.block b x.lt.2 fun a ha e' => ?_) (g.block r x.lt.1 fun a ha e' => ?_)
  · obtain ⟨_, _, c', hc'⟩ := o.blk ha
    rw [← e', h1] at hc'; cases hc'
  · obtain ⟨_, _, c', hc'⟩ := o.blk ha
    rw [← e', h2] at hc'; cases hc'
/-- what lies in rows of cells stands when the iterator goes on -/
theorem Upd.keepIter {h' : Mem} (u : Upd r h h') (x : RangeIs h b r m left cnt) : ∀ (j : Nat) (c : Array Value) (e : TypeId) (fz : Nat × Nat), h[j]? = some (.cells c e fz) → h'[j]? = h[j]? := by
  obtain ⟨_, s0, s1, s2, s3, h2⟩ := x.obj
  intro j c e fz hj
  refine u.block j fun e' => ?_
  rw [e', h2] at hj; cases hj

theorem ranges_cnt {w : World} {D : DataW Unit} {lf : Lit → Bool} (x : w.ranges PG ty_string RM b r n D lf cnt) : cnt ≤ n := by
  obtain ⟨es, clock, since, seen, c0, h1, F, h3, h4, h5, h6, h7, _⟩ := x
  have : (leftOf es seen).size ≤ es.size := by unfold leftOf; exact Array.size_filter_le
  omega
theorem RangeIs.measure (x : RangeIs h b r m left cnt) : (wOf h).rangeLeft b r = cnt := let ⟨_, _, _, o, _⟩ := x; o.left_eq
theorem MapIs.range {K : Option Addr → Mem → Prop} (x : MapIs h b n m) (q : ∀ h' cnt, cnt ≤ n → RangeIs h' b h.size m (fun k => (m k).isSome) cnt → Ext h.size h h' → h'.size = h.size + 1 → K (some ⟨h.size, 0, none⟩) h') :
    PrimT PG (Instr.range ty_map_string_int (.map (some b))) (.one (.leaf .ptr)) h K := by
  intro w hw
  subst hw
  obtain ⟨D, own, hD, hm⟩ := x
  have own' : w.ownsMap PG ty_string RM b n D := own
  obtain ⟨w', hrun, rg, gr, hs⟩ := own'.range KM und_map
  exact ⟨_, w', hrun, ⟨gr.os, gr.tape, gr.output⟩, [.pointer (some ⟨w.heap.size, 0, none⟩)], rfl, _, .ptr _, q _ _ (ranges_cnt rg) ⟨D, n, _, rg, fun k => (hm k).1, fun k hk => hk, fun k x hx => (hm k).2 x hx⟩ ⟨gr.size, fun j hj => gr.block j hj (by simp)⟩ hs⟩

theorem RangeIs.next {K : Bool → List Value → Mem → Prop} (x : RangeIs h b r m left cnt) {ty : TypeId}
    (q0 : (∀ k, left k = false) → ∀ rest, K false rest h)
    (q1 : ∀ (k : ByteArray) (i : Nat) rest h' cnt', left k = true → m k = some i → cnt' < cnt → RangeIs h' b r m (fun k' => left k' && !decide (k' = k)) cnt' → Upd r h h' →
      (∀ K2 : Value → Int → Prop, (∀ v, K2 v (i : Int)) → ReadT PG (Instr.entry (.pointer (some ⟨r, 0, none⟩))) (.tup [.leaf .raw, .leaf (.int .i64)]) h' K2) → K true rest h') :
    NextP PG (Instr.next (.pointer (some ⟨r, 0, none⟩)) false ty) h K := by
  intro w hw
  subst hw
  obtain ⟨D, n, lf, rg, hlf, hlm, hat⟩ := x
  have rg' : w.ranges PG ty_string RM b r n D lf cnt := rg
  rcases rg'.next KM ty with ⟨h0, hall, hrun⟩ | ⟨key, v, kl0, y, w', cnt', hkey, hl, hR, hz, hrun, rg2, hc, gr, hs, hent⟩
  · exact ⟨_, w, hrun, Same.refl _, false, [], rfl, q0 (fun k => by rw [← hlf]; exact hall _) _⟩
  · obtain ⟨s, rfl, rfl, hsz⟩ := Go.WideMaps.string_of_keyOf und_mstr hkey
    have hls : left s = true := by rw [← hlf]; exact hl
    obtain ⟨i, hi⟩ := Option.isSome_iff_exists.1 (hlm s hls)
    obtain ⟨a, rfl, rfl, _⟩ := plainElem_int_inv und_mint hR
    have e := (hat s i hi .nil).symm.trans (hz .nil)
    have e : a = (i : Int) := by injection e with e; injection e with _ e; exact e.symm
    subst e
    refine ⟨_, w', hrun, ⟨gr.os, gr.tape, gr.output⟩, true, [_, _], rfl, q1 s i _ w'.heap cnt' hls hi hc ⟨D, n, fun x => lf x && !x.sameKey (kl s), rg2, fun k => ?_, fun k hk => hlm k ?_, hat⟩ ⟨hs, fun j hj => ?_⟩ fun K2 hK2 => ?_⟩
    · show (lf (kl k) && !(kl k).sameKey (kl s)) = _
      rw [hlf]
      by_cases e : k = s
      · subst e; rw [WideAt.sameKey_self (kl_key _)]; simp
      · rw [Maps.sameKey_ne (fun e' => e (kl_inj e'))]; simp [e]
    · simp only [Bool.and_eq_true] at hk; exact hk.1
    · by_cases hj' : j < w.heap.size
      · exact gr.block j hj' (by simp [hj])
      · rw [Array.getElem?_eq_none (by omega), Array.getElem?_eq_none (by omega)]
    · refine ⟨.tuple #[.string s, .int .i64 (i : Int)], fun w2 hw2 => ?_, [.string s, .int .i64 (i : Int)], rfl, _, .raw _, _, .int _ _, hK2 _⟩
      obtain ⟨es, clock, since, seen, c0, h1, F, h3, h4, h5, _⟩ := rg2
      have h1' := hw2 ▸ h1
      have h5' := hw2 ▸ h5
      simp only [Instr.entry, getObj, Sem.run_bind, Sem.run, h5, h5', Result.andThen] at hent ⊢
      cases hbk : seen.back? with
      | none =>
        rw [hbk] at hent
        simp at hent
      | some x =>
        rw [hbk] at hent
        simp only [Sem.run_bind, Sem.run, h1, h1', Result.andThen] at hent ⊢
        by_cases hcl : (clock != c0) = true
        · simp [hcl, unsupported, Sem.run_bind] at hent
        · rw [if_neg hcl] at hent ⊢
          cases hf : Array.find? (fun e => e.born == x) es with
          | none => rw [hf] at hent; simp [unsupported] at hent
          | some e =>
            rw [hf] at hent
            have : (Value.tuple #[e.key, e.val]) = .tuple #[.string s, .int .i64 (i : Int)] := by
              injection hent
            exact congrArg (fun v => Result.ok v w2) this
end
end Go.Dn.W
