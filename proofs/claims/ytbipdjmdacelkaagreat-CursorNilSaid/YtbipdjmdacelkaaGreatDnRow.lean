/- The heap: new blocks, stores into rows, structs, slices that own their row, appends. -/
import Derived.Test.YtbipdjmdacelkaaGreatDnMem
import Derived.Laws.AppendOwn
import Derived.Laws.OwnMore
import Derived.Laws.CopyRow
import Derived.Laws.MakeOwn
set_option linter.unusedVariables false
namespace Go.Dn
open Go

/-- nothing but the block is another -/
structure Upd (b : Nat) (h h' : Mem) : Prop where
  size : h'.size = h.size
  block : ∀ k, k ≠ b → h'[k]? = h[k]?

theorem Upd.ext {b B : Nat} {h h' : Mem} (u : Upd b h h') (hB : B ≤ b) : Ext B h h' := ⟨Nat.le_of_eq u.size.symm, fun k hk => u.block k (by omega)⟩

theorem New.go {o : Obj} {h : Mem} {K : Nat → Mem → Prop} (hk : ∀ h', h' = h.push o → Ext h.size h h' → h'.size = h.size + 1 → h'[h.size]? = some o → K h.size h') : New o h K := by
  rintro b h' ⟨rfl, rfl⟩
  exact hk _ rfl (Ext.push _ _ (Nat.le_refl _)) (by simp) (push_get_size _ _)

/-- the cells from a on -/
def Cells (h : Mem) (a : Addr) (cs : List Value) : Prop := ∀ i v, cs[i]? = some v → cellAt h (a.add i) = some v

theorem Ext.cellAt {B : Nat} {h h' : Mem} (x : Ext B h h') {a : Addr} {v : Value} (hb : a.block < B) (hc : cellAt h a = some v) : cellAt h' a = some v := by
  unfold Dn.cellAt at *
  rw [x.block _ hb]; exact hc
theorem cellAt_lt {h : Mem} {a : Addr} {v : Value} (hc : cellAt h a = some v) : a.block < h.size := by
  unfold cellAt at hc
  rcases Nat.lt_or_ge a.block h.size with hlt | hge
  · exact hlt
  · rw [Array.getElem?_eq_none hge] at hc; cases hc
theorem add_block (a : Addr) (n : Nat) : (a.add n).block = a.block := by unfold Addr.add; split <;> rfl
theorem Cells.ext {h h' : Mem} {a : Addr} {cs : List Value} (c : Cells h a cs) (x : Ext h.size h h') : Cells h' a cs := fun i v hv => x.cellAt (cellAt_lt (c i v hv)) (c i v hv)
theorem Cells.row {h : Mem} {b o : Nat} {c : Array Value} {e : TypeId} {fz : Nat × Nat} (hb : h[b]? = some (.cells c e fz)) {cs : List Value} (hc : ∀ i v, cs[i]? = some v → c[o + i]? = some v) : Cells h ⟨b, o, none⟩ cs := by
  intro i v hv
  rw [add_off, cellAt_row hb]
  exact hc i v hv
theorem Cells.whole {h : Mem} {b : Nat} {cs : List Value} {e : TypeId} {fz : Nat × Nat} (hb : h[b]? = some (.cells cs.toArray e fz)) : Cells h ⟨b, 0, none⟩ cs :=
  Cells.row hb fun i v hv => by simpa using hv

section ops
variable {P : Program} {h : Mem}

/-- a struct's cells are loaded -/
theorem Ld.agg {ls : List Leaf} {t : TypeId} {d : TypeDesc} {p : Addr} {cs : List Value} {K : Cur Prop ls} (hu : P.underlying t = some d) (ha : isAggB P t = true) (hsz : szOf P t = ls.length) (hl : cs.length = ls.length)
    (hc : Cells h p cs) (hk : Appl id ls cs K) : Ld P t p (.one (.agg ls)) h K := by
  refine ⟨.agg cs.toArray, fun w hw => ?_, cs, ?_, hk⟩
  · subst hw
    have hcells := run_loadCells_list (P := P) w p cs hc
    simp only [loadVar, Sem.run_bind, run_isAgg hu, ha, Result.andThen_ok, if_true, run_szOf' hu, hsz, ← hl, hcells, Sem.run_pure]
  · show _ = Value.agg (takeN ls.length cs).toArray
    rw [takeN_eq, ← hl, List.take_length]

/-- values are stored into a row -/
theorem St.row {t : TypeId} {d : TypeDesc} {v : Value} {vs : List Value} {c : Array Value} {e : TypeId} {b o : Nat} {K : Mem → Prop} (hu : P.underlying t = some d) (hv : v.cells = vs.toArray) (hsz : szOf P t = vs.length)
    (h1 : ∀ x ∈ vs, x.oneCell' = true) (hr : h[b]? = some (.cells c e (0, 0))) (hfit : o + vs.length ≤ c.size)
    (hk : ∀ h', Upd b h h' → h'[b]? = some (.cells (c.toList.take o ++ vs ++ c.toList.drop (o + vs.length)).toArray e (0, 0)) → K h') : St P t ⟨b, o, none⟩ v h K := by
  intro w hw
  subst hw
  have hrun := run_storeCells_at P b o e vs 0 c w hr (by omega) h1
  simp only [Nat.add_zero] at hrun
  refine ⟨(), w.setRow b (c.toList.take o ++ vs ++ c.toList.drop (o + vs.length)).toArray, ?_, ⟨rfl, rfl, rfl⟩, hk _ ⟨?_, ?_⟩ ?_⟩
  · simp only [storeVar, Sem.run_bind, run_szOf' hu, Result.andThen_ok, hv, hsz, List.size_toArray, ne_eq, not_true_eq_false, if_false]
    exact hrun
  · simp [World.setRow]
  · intro k hk; exact setRow_other w b k _ hk
  · exact setRow_heap w b c _ e _ hr
end ops

/-! ### slices that own their row -/

def wOf (h : Mem) : World := { (default : World) with heap := h }
/-- the slice owns its row, or is nil; of its cells the first are xs; spare room behind -/
def Owns (h : Mem) (base : Nat) (e : TypeId) (size : Nat) (s : Sl) (xs : List Value) : Prop := (wOf h).ownsRow base e size (.slice s.a s.len s.cap) s.len xs

theorem owns_iff (w : World) {base : Nat} {e : TypeId} {size : Nat} {s : Sl} {xs : List Value} : w.ownsRow base e size (.slice s.a s.len s.cap) s.len xs ↔ Owns w.heap base e size s xs := Iff.rfl

theorem Owns.nil (h : Mem) (base : Nat) (e : TypeId) (size : Nat) : Owns h base e size ⟨none, 0, 0⟩ [] := World.ownsRow_nil (wOf h) base e size

/-- blocks that the slice does not own stand -/
structure Grown (s : Sl) (h h' : Mem) : Prop where
  size : h.size ≤ h'.size
  block : ∀ k, k < h.size → (∀ a, s.a = some a → k ≠ a.block) → h'[k]? = h[k]?

theorem append_owns {P : Program} {h : Mem} {base : Nat} {t ty e : TypeId} {i : TypeInfo} {z : Value} {size : Nat} (ht : P.underlying t = some (.slice e)) (hi : P.info? e = some i) (hz : i.zero = some z)
    (hsize : i.size = size) (hzs : z.cells.size = size) (hsz : 0 < size) {s : Sl} {xs : List Value} (hown : Owns h base e size s xs)
    {a : Addr} {m c : Nat} {news : List Value} (hl : news.length = m * size) (hnews : Cells h a news) (h1 : ∀ u ∈ news, u.oneCell' = true)
    (h63 : s.len + m ≤ maxLen) (hbytes : (s.len + m) * i.bytes ≤ 140737488355328) (hbase : base ≤ h.size) {K : Sl → Mem → Prop}
    (hk : ∀ s' h', s'.len = s.len + m → Owns h' base e size s' (xs ++ news) → Grown s h h' → K s' h') :
    PrimT P (Builtin.append_ #[t, t] ty #[.slice s.a s.len s.cap, .slice (some a) m c]) (.one (.leaf .sl)) h K := by
  intro w hw
  subst hw
  obtain ⟨v', w', hr, h2, h3, _⟩ := run_append_own (P := P) w base t ty e i z size i.bytes ht hi hz hsize rfl hzs hsz _ _ xs hown a m c news hl hnews h1 h63 hbytes hbase
  have hv : ∃ s' : Sl, v' = .slice s'.a s'.len s'.cap ∧ s'.len = s.len + m := by
    rcases h2.2 with ⟨rfl, hn⟩ | ⟨g, cap, cur, rfl, _⟩
    · exact ⟨⟨none, 0, 0⟩, rfl, hn.symm⟩
    · exact ⟨⟨_, _, _⟩, rfl, rfl⟩
  obtain ⟨s', rfl, hs'⟩ := hv
  refine ⟨_, w', hr, ⟨h3.os, h3.tape, h3.output⟩, [_], rfl, s', .sl _ _ _, hk s' w'.heap hs' ?_ ⟨h3.size, ?_⟩⟩
  · rw [← hs'] at h2; exact h2
  · intro k hk' hne
    refine h3.block k hk' ?_
    intro e
    cases hsa : s.a with
    | none => rw [hsa] at e; simp [Value.ownBlock] at e
    | some ad => rw [hsa] at e; simp [Value.ownBlock] at e; exact hne ad hsa e
/-- what an append asks of the element's type -/
def infoOk (P : Program) (e : TypeId) (size bytes : Nat) : Bool :=
  match P.info? e with
  | some i => Nat.beq i.size size && (Nat.beq i.bytes bytes && (!Nat.beq size 0 && (match i.zero with | some z => Nat.beq (cellsL z).length size | none => false)))
  | none => false
theorem infoOk_spec {P : Program} {e : TypeId} {size bytes : Nat} (h : infoOk P e size bytes = true) : ∃ i z, P.info? e = some i ∧ i.zero = some z ∧ i.size = size ∧ i.bytes = bytes ∧ z.cells.size = size ∧ 0 < size := by
  unfold infoOk at h
  split at h
  · rename_i i hi
    simp only [Bool.and_eq_true, Bool.not_eq_true'] at h
    obtain ⟨h1, h2, h3, h4⟩ := h
    split at h4
    · rename_i z hz
      have e4 := Nat.eq_of_beq_eq_true h4
      rw [cellsL_eq] at e4
      exact ⟨i, z, hi, hz, Nat.eq_of_beq_eq_true h1, Nat.eq_of_beq_eq_true h2, by simpa using e4, by have := Nat.ne_of_beq_eq_false h3; omega⟩
    · cases h4
  · cases h

/-- append, to a slice that owns its row (or is nil); of what is appended only the cells are asked -/
theorem append_go {P : Program} {h : Mem} {base : Nat} {t ty e : TypeId} {size bytes : Nat} (ht : P.underlying t = some (.slice e)) (hi : infoOk P e size bytes = true) {s : Sl} {xs : List Value} (hown : Owns h base e size s xs)
    {v : Sl} {news : List Value} (hl : news.length = v.len * size) (hnews : ∀ a, v.a = some a → Cells h a news) (hnil : v.a = none → v.len = 0 ∧ v.cap = 0) (h1 : ∀ u ∈ news, u.oneCell' = true)
    (hbytes : (s.len + v.len) * bytes ≤ 140737488355328) (hb0 : 0 < bytes) (hbase : base ≤ h.size) {K : Sl → Mem → Prop}
    (hk : ∀ s' h', s'.len = s.len + v.len → Owns h' base e size s' (xs ++ news) → Grown s h h' → K s' h') :
    PrimT P (Builtin.append_ #[t, t] ty #[.slice s.a s.len s.cap, .slice v.a v.len v.cap]) (.one (.leaf .sl)) h K := by
  obtain ⟨i, z, hi, hz, hs, hby, hzs, hsz⟩ := infoOk_spec hi
  have hm : s.len + v.len ≤ maxLen := by
    have := Nat.le_mul_of_pos_right (s.len + v.len) hb0
    simp only [maxLen]
    omega
  obtain ⟨va, vl, vc⟩ := v
  cases va with
  | some a => exact append_owns ht hi hz hs hzs hsz hown hl (hnews a rfl) h1 hm (by rw [hby]; exact hbytes) hbase hk
  | none =>
    obtain ⟨h0, hc⟩ := hnil rfl
    simp only at h0 hc
    subst h0 hc
    intro w hw
    subst hw
    have hn : news = [] := List.eq_nil_of_length_eq_zero (by rw [hl]; simp)
    subst hn
    refine ⟨_, w, run_append_owned_none w base t ty e i size ht hi _ _ xs hown, Same.refl _, [_], rfl, s, .sl _ _ _, hk s w.heap rfl (by rw [List.append_nil]; exact hown) ⟨Nat.le_refl _, fun _ _ _ => rfl⟩⟩
theorem add_add' (a : Addr) (m n : Nat) : (a.add m).add n = a.add (m + n) := by
  unfold Addr.add
  by_cases hm : m = 0
  · subst hm; simp
  · by_cases hn : n = 0
    · subst hn; simp
    · simp [hm, hn, Nat.add_assoc]
theorem cells_flatten {h : Mem} {a : Addr} {n : Nat} {css : List (List Value)} (hn : 0 < n) (hw : ∀ cs ∈ css, cs.length = n) (hc : ∀ i cs, css[i]? = some cs → Cells h (a.add (i * n)) cs) : Cells h a css.flatten := by
  intro k v hk
  have key : ∀ (css : List (List Value)) (k : Nat), (∀ cs ∈ css, cs.length = n) → css.flatten[k]? = some v → ∃ i j cs, k = i * n + j ∧ css[i]? = some cs ∧ cs[j]? = some v := by
    intro css
    induction css with
    | nil => intro k _ h; simp at h
    | cons c css ih =>
      intro k hw h
      have hcl := hw c (by simp)
      rw [List.flatten_cons] at h
      rcases Nat.lt_or_ge k c.length with hlt | hge
      · rw [List.getElem?_append_left hlt] at h
        exact ⟨0, k, c, by omega, rfl, h⟩
      · rw [List.getElem?_append_right hge] at h
        obtain ⟨i, j, cs, e, h1, h2⟩ := ih _ (fun c hc => hw c (by simp [hc])) h
        exact ⟨i + 1, j, cs, by rw [Nat.add_mul]; omega, h1, h2⟩
  obtain ⟨i, j, cs, rfl, h1, h2⟩ := key css k hw hk
  have h3 := hc i cs h1 j v h2
  rw [add_add'] at h3
  exact h3
end Go.Dn
