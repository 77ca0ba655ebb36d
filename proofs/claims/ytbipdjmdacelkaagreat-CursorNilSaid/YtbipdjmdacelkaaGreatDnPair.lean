/- Bytes, pairs, operations: how they lie in the heap; closures, functions without a body. -/
import Derived.Test.YtbipdjmdacelkaaGreatDnRow
import Derived.Lib.Bytealg
namespace Go.Dn
open Go

/-! ### calls -/

theorem callV_fn {P : Program} {g : FuncId} {args : List Value} {kd : Kd} {h : Mem} {K : Cur (Mem → Prop) kd.leaves} (c : CallF P g args kd h K) : CallV P (.func (.func g) #[] #[]) args kd h K := by
  intro w hw
  have := c w hw
  simp only [Deferred.ofValue, Sem.run_bind, Sem.run_pure, Result.andThen_ok, invoke, Array.empty_append, Array.append_empty]
  exact this

/-- a function without a body, whose row is known -/
theorem callF_row {P : Program} {f : FuncId} {fn : Func} {args : List Value} {kd : Kd} {h : Mem} {K : Cur (Mem → Prop) kd.leaves} {e : Array Value → Sem Value} (hf : P.funcs[f]? = some fn) (hn : (fn.name == "runtime.NumGoroutine") = false)
    (hb : fn.body.isNone = true) (h1 : Extern.findNext fn = none) (h2 : Extern.find fn = some e) (hk : PrimT P (e args.toArray) kd h K) : CallF P f args kd h K := by
  intro w hw
  obtain ⟨v, w', hr, hs, hf'⟩ := hk w hw
  have : (callFunc f args.toArray).run P w = .ok (.value v) w' := by
    have hn' := beq_eq_false_iff_ne.1 hn
    have hb' : fn.body = none := Option.isNone_iff_eq_none.1 hb
    simp [callFunc, hf, hn', hb', mark, Sem.run, h1, h2, hr]
  rw [this]
  exact ⟨hs, hf'⟩

/-! ### bytes -/

theorem BytesAt.ext {h h' : Mem} {a : Option Addr} {l : List UInt8} (b : BytesAt h a l) (x : Ext h.size h h') : BytesAt h' a l := by
  cases a with
  | none => exact b
  | some p => exact fun i y hy => x.cellAt (cellAt_lt (b i y hy)) (b i y hy)

/-- a slice of bytes -/
structure BytesSl (h : Mem) (s : Sl) (l : List UInt8) : Prop where
  len : s.len = l.length
  at_ : BytesAt h s.a l
  nil : s.a = none → s.cap = 0
theorem BytesSl.ext {h h' : Mem} {s : Sl} {l : List UInt8} (b : BytesSl h s l) (x : Ext h.size h h') : BytesSl h' s l := ⟨b.len, b.at_.ext x, b.nil⟩
theorem BytesSl.isNil (h : Mem) : BytesSl h ⟨none, 0, 0⟩ [] := ⟨rfl, rfl, fun _ => rfl⟩

/-- a slice of bytes that a function has made -/
def OwnB (h : Mem) (B : Nat) (e : TypeId) (s : Sl) (l : List UInt8) : Prop := Owns h B e 1 s (l.map bcell)

theorem OwnB.len {h : Mem} {B : Nat} {e : TypeId} {s : Sl} {l : List UInt8} (o : OwnB h B e s l) : s.len = l.length := by
  have := o.1
  simpa using this.symm
theorem Owns.nil0 {h : Mem} {B : Nat} {e : TypeId} {size : Nat} {s : Sl} {xs : List Value} (o : Owns h B e size s xs) (hn : s.a = none) : s.len = 0 ∧ s.cap = 0 := by
  rcases o.2 with ⟨hv, _⟩ | ⟨g, cap, cur, hv, _⟩
  · simp only [Value.slice.injEq] at hv; exact ⟨hv.2.1, hv.2.2⟩
  · simp only [Value.slice.injEq] at hv; rw [hv.1] at hn; cases hn
theorem OwnB.nil {h : Mem} {B : Nat} {e : TypeId} {s : Sl} {l : List UInt8} (o : OwnB h B e s l) (hn : s.a = none) : s.cap = 0 := (Owns.nil0 o hn).2
theorem OwnB.bytes {h : Mem} {B : Nat} {e : TypeId} {s : Sl} {l : List UInt8} (o : OwnB h B e s l) : BytesSl h s l := by
  refine ⟨o.len, ?_, o.nil⟩
  rcases o.2 with ⟨hv, hn⟩ | ⟨g, cap, cur, hv, hB, hg, hc, hm, hs, ht⟩
  · simp only [Value.slice.injEq] at hv
    rw [hv.1]
    exact List.eq_nil_of_length_eq_zero (by rw [← o.len]; exact hn)
  · simp only [Value.slice.injEq] at hv
    rw [hv.1]
    intro i b hb
    rw [add_off, Nat.zero_add, cellAt_row (h := h) hg]
    have : (cur.toList.take (s.len * 1))[i]? = some (bcell b) := by rw [ht, List.getElem?_map, hb]; rfl
    rw [List.getElem?_take] at this
    split at this
    · simpa using this
    · cases this

/-! ### what a function has made stands -/

theorem Owns.kept {h h' : Mem} {B : Nat} {e : TypeId} {size : Nat} {s : Sl} {xs : List Value} (o : Owns h B e size s xs) (hk : ∀ a, s.a = some a → h'[a.block]? = h[a.block]?) : Owns h' B e size s xs := by
  refine ⟨o.1, ?_⟩
  rcases o.2 with h0 | ⟨g, cap, cur, hv, hB, hg, rest⟩
  · exact .inl h0
  · refine .inr ⟨g, cap, cur, hv, hB, ?_, rest⟩
    simp only [Value.slice.injEq] at hv
    have := hk _ hv.1
    show h'[g]? = _
    rw [this]; exact hg
theorem Owns.base {h : Mem} {B B' : Nat} {e : TypeId} {size : Nat} {s : Sl} {xs : List Value} (o : Owns h B e size s xs) (hB : B' ≤ B) : Owns h B' e size s xs := by
  refine ⟨o.1, ?_⟩
  rcases o.2 with h0 | ⟨g, cap, cur, hv, hb, rest⟩
  · exact .inl h0
  · exact .inr ⟨g, cap, cur, hv, Nat.le_trans hB hb, rest⟩
theorem Owns.blk {h : Mem} {B : Nat} {e : TypeId} {size : Nat} {s : Sl} {xs : List Value} (o : Owns h B e size s xs) {a : Addr} (ha : s.a = some a) : B ≤ a.block ∧ a.block < h.size ∧ ∃ c, h[a.block]? = some (.cells c e (0, 0)) := by
  rcases o.2 with ⟨hv, _⟩ | ⟨g, cap, cur, hv, hB, hg, rest⟩
  · simp only [Value.slice.injEq] at hv; rw [hv.1] at ha; cases ha
  · simp only [Value.slice.injEq] at hv
    rw [hv.1] at ha
    cases ha
    exact ⟨hB, (Array.getElem?_eq_some_iff.1 hg).1, cur, hg⟩
theorem Owns.ext {h h' : Mem} {B : Nat} {e : TypeId} {size : Nat} {s : Sl} {xs : List Value} (o : Owns h B e size s xs) (x : Ext h.size h h') : Owns h' B e size s xs :=
  o.kept fun _ ha => x.block _ (o.blk ha).2.1
/-- rows of another element type are other rows -/
theorem Owns.grown {h h' : Mem} {B B' : Nat} {e e' : TypeId} {size size' : Nat} {s t : Sl} {xs ys : List Value} (o : Owns h B e size s xs) (ot : Owns h B' e' size' t ys) (hne : e ≠ e') (g : Grown t h h') : Owns h' B e size s xs := by
  refine o.kept fun a ha => ?_
  obtain ⟨_, hlt, c, hc⟩ := o.blk ha
  refine g.block _ hlt fun a' ha' e' => ?_
  obtain ⟨_, _, c', hc'⟩ := ot.blk ha'
  rw [e', hc'] at hc
  cases hc
  exact hne rfl
theorem Grown.ext {t : Sl} {h h' : Mem} {B : Nat} (g : Grown t h h') (hB : B ≤ h.size) (ht : ∀ a, t.a = some a → B ≤ a.block) : Ext B h h' :=
  ⟨g.size, fun k hk => g.block k (by omega) fun a ha e => by have := ht a ha; omega⟩
theorem Owns.grownExt {h h' : Mem} {B : Nat} {e : TypeId} {size : Nat} {s : Sl} {xs : List Value} (o : Owns h B e size s xs) (hB : B ≤ h.size) (g : Grown s h h') : Ext B h h' := g.ext hB fun _ ha => (o.blk ha).1

theorem one_bcell {l : List UInt8} : ∀ u ∈ l.map bcell, u.oneCell' = true := by
  intro u hu
  obtain ⟨b, _, rfl⟩ := List.mem_map.1 hu
  rfl
theorem BytesSl.cells {h : Mem} {s : Sl} {l : List UInt8} (b : BytesSl h s l) : ∀ a, s.a = some a → Cells h a (l.map bcell) := by
  intro a ha i v hv
  have := b.at_
  rw [ha] at this
  rw [List.getElem?_map] at hv
  cases hi : l[i]? with
  | none => rw [hi] at hv; cases hv
  | some x => rw [hi] at hv; cases hv; exact this i x hi
theorem BytesSl.nil0 {h : Mem} {s : Sl} {l : List UInt8} (b : BytesSl h s l) (hn : s.a = none) : s.len = 0 ∧ s.cap = 0 := by
  have := b.at_
  rw [hn] at this
  have hl : l = [] := this
  exact ⟨by rw [b.len, hl]; rfl, b.nil hn⟩


/-- the cells of a slice that owns its row -/
theorem Owns.addr {h : Mem} {B : Nat} {e : TypeId} {size : Nat} {s : Sl} {xs : List Value} (o : Owns h B e size s xs) {a : Addr} (ha : s.a = some a) : ∃ g, a = ⟨g, 0, none⟩ := by
  rcases o.2 with ⟨hv, _⟩ | ⟨g, cap, cur, hv, _⟩
  · simp only [Value.slice.injEq] at hv; rw [hv.1] at ha; cases ha
  · simp only [Value.slice.injEq] at hv; rw [hv.1] at ha; cases ha; exact ⟨g, rfl⟩
theorem Owns.cells {h : Mem} {B : Nat} {e : TypeId} {size : Nat} {s : Sl} {xs : List Value} (o : Owns h B e size s xs) {a : Addr} (ha : s.a = some a) : Cells h a xs := by
  rcases o.2 with ⟨hv, _⟩ | ⟨g, cap, cur, hv, hB, hg, hn, hm, hs, ht⟩
  · simp only [Value.slice.injEq] at hv; rw [hv.1] at ha; cases ha
  · simp only [Value.slice.injEq] at hv
    rw [hv.1] at ha
    cases ha
    intro i v hi
    rw [add_off, Nat.zero_add, cellAt_row (h := h) hg]
    rw [← ht, List.getElem?_take] at hi
    split at hi
    · simpa using hi
    · cases hi
theorem Owns.some {h : Mem} {B : Nat} {e : TypeId} {size : Nat} {s : Sl} {xs : List Value} (o : Owns h B e size s xs) (hn : s.len ≠ 0) : ∃ a, s.a = .some a := by
  rcases o.2 with ⟨_, h0⟩ | ⟨g, cap, cur, hv, _⟩
  · exact absurd h0 hn
  · simp only [Value.slice.injEq] at hv; exact ⟨_, hv.1⟩
end Go.Dn
