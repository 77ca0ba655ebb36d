/- Lists that a function has made, of whatever elements; their values may lie elsewhere, as bytes. -/
import Derived.Test.YtemelcaoepaoiaaDnRDo
namespace Go.Dn.W
open Go Go.Dn Go.Proofs

/-- the rows of bytes stand -/
def KeepB (h h' : Mem) : Prop := ∀ (k : Nat) (c : Array Value), h[k]? = some (.cells c ty_uint8 (0, 0)) → h'[k]? = h[k]?
theorem KeepB.refl (h : Mem) : KeepB h h := fun _ _ _ => rfl
theorem Ext.keepB {h h' : Mem} (x : Ext h.size h h') : KeepB h h' := fun _ _ hk => x.block _ (Array.getElem?_eq_some_iff.1 hk).1
theorem OwnB.keep {h h' : Mem} {B : Nat} {s : Sl} {l : List UInt8} (o : OwnB h B ty_uint8 s l) (k : KeepB h h') : OwnB h' B ty_uint8 s l :=
  Owns.kept o fun _ ha => let ⟨_, _, c, hc⟩ := Owns.blk o ha; k _ c hc
theorem Grown.keepB {h h' : Mem} {B size : Nat} {e : TypeId} {s : Sl} {xs : List Value} (o : Owns h B e size s xs) (hne : e ≠ ty_uint8) (g : Grown s h h') : KeepB h h' := by
  intro k c hk
  refine g.block k (Array.getElem?_eq_some_iff.1 hk).1 fun a ha e' => ?_
  obtain ⟨_, _, c', hc'⟩ := o.blk ha
  rw [← e', hk] at hc'
  cases hc'
  exact hne rfl
theorem Upd.keepB {h h' : Mem} {b : Nat} {e : TypeId} {c : Array Value} {fz : Nat × Nat} (u : Upd b h h') (hb : h[b]? = some (.cells c e fz)) (hne : e ≠ ty_uint8) : KeepB h h' := by
  intro k c' hk
  refine u.block k fun e' => ?_
  rw [e', hb] at hk
  cases hk
  exact hne rfl

/-- what an element's cells say of it: it may hang on rows of bytes alone -/
def ElemRel (α : Type) : Type := Mem → Nat → List Value → α → Prop
def Stab {α : Type} (E : ElemRel α) : Prop := ∀ (h h' : Mem) (B : Nat) (cs : List Value) (x : α), E h B cs x → KeepB h h' → E h' B cs x

structure LHeads {α : Type} (size : Nat) (E : ElemRel α) (h : Mem) (B : Nat) (css : List (List Value)) (l : List α) : Prop where
  len : css.length = l.length
  width : ∀ cs ∈ css, cs.length = size
  one : ∀ cs ∈ css, ∀ u ∈ cs, u.oneCell' = true
  is : ∀ (i : Nat) (cs : List Value) (x : α), css[i]? = some cs → l[i]? = some x → E h B cs x

/-- a list that a function has made: its row lies from B' on, what its elements hold from B on -/
def OwnL {α : Type} (e size : Nat) (E : ElemRel α) (h : Mem) (B' B : Nat) (s : Sl) (l : List α) : Prop := ∃ css, Owns h B' e size s css.flatten ∧ LHeads size E h B css l

theorem flatten_length {n : Nat} : ∀ {css : List (List Value)}, (∀ cs ∈ css, cs.length = n) → css.flatten.length = css.length * n
  | [], _ => by simp
  | cs :: css, h => by
    rw [List.flatten_cons, List.length_append, h cs (by simp), flatten_length (fun c hc => h c (by simp [hc])), List.length_cons, Nat.add_mul]; omega
theorem flatten_get {n : Nat} : ∀ {css : List (List Value)} {i j : Nat} {cs : List Value} {v : Value}, (∀ cs ∈ css, cs.length = n) → css[i]? = some cs → cs[j]? = some v → css.flatten[i * n + j]? = some v
  | [], i, j, cs, v, _, hi, _ => by simp at hi
  | c :: css, 0, j, cs, v, h, hi, hj => by
    simp only [List.getElem?_cons_zero, Option.some.injEq] at hi
    subst hi
    rw [Nat.zero_mul, Nat.zero_add, List.flatten_cons, List.getElem?_append_left (List.getElem?_eq_some_iff.1 hj).1]
    exact hj
  | c :: css, i + 1, j, cs, v, h, hi, hj => by
    simp only [List.getElem?_cons_succ] at hi
    have hc := h c (by simp)
    rw [List.flatten_cons, List.getElem?_append_right (by rw [hc, Nat.add_mul]; omega), hc, show (i + 1) * n + j - n = i * n + j by rw [Nat.add_mul]; omega]
    exact flatten_get (fun c hc => h c (by simp [hc])) hi hj
theorem flatten_take {n : Nat} : ∀ {css : List (List Value)} (i : Nat), (∀ cs ∈ css, cs.length = n) → css.flatten.take (i * n) = (css.take i).flatten
  | [], i, _ => by simp
  | c :: css, 0, _ => by simp
  | c :: css, i + 1, h => by
    have hc := h c (by simp)
    rw [List.flatten_cons, List.take_succ_cons, List.flatten_cons, List.take_append, hc, List.take_of_length_le (by rw [hc, Nat.add_mul]; omega), show (i + 1) * n - n = i * n by rw [Nat.add_mul]; omega, flatten_take i fun c hc => h c (by simp [hc])]
theorem flatten_drop {n : Nat} : ∀ {css : List (List Value)} (i : Nat), (∀ cs ∈ css, cs.length = n) → css.flatten.drop (i * n) = (css.drop i).flatten
  | [], i, _ => by simp
  | c :: css, 0, _ => by simp
  | c :: css, i + 1, h => by
    have hc := h c (by simp)
    rw [List.flatten_cons, List.drop_succ_cons, List.drop_append, hc, List.drop_eq_nil_of_le (by rw [hc, Nat.add_mul]; omega), List.nil_append, show (i + 1) * n - n = i * n by rw [Nat.add_mul]; omega, flatten_drop i fun c hc => h c (by simp [hc])]

section
variable {α : Type} {e size : Nat} {E : ElemRel α} {h : Mem} {B' B : Nat} {s : Sl} {l : List α}

theorem LHeads.nil : LHeads size E h B [] ([] : List α) := ⟨rfl, by simp, by simp, fun i cs x hi => by simp at hi⟩
theorem OwnL.nil (e size : Nat) (E : ElemRel α) (h : Mem) (B' B : Nat) : OwnL e size E h B' B ⟨none, 0, 0⟩ [] := ⟨[], Owns.nil h B' _ _, LHeads.nil⟩
theorem LHeads.keep {h' : Mem} {css : List (List Value)} (x : LHeads size E h B css l) (hst : Stab E) (k : KeepB h h') : LHeads size E h' B css l := ⟨x.len, x.width, x.one, fun i cs y hi hy => hst _ _ _ _ _ (x.is i cs y hi hy) k⟩
theorem LHeads.snoc {css : List (List Value)} {cs : List Value} {y : α} (x : LHeads size E h B css l) (hw : cs.length = size) (h1 : ∀ u ∈ cs, u.oneCell' = true) (he : E h B cs y) : LHeads size E h B (css ++ [cs]) (l ++ [y]) := by
  refine ⟨by simp [x.len], fun c hc => ?_, fun c hc => ?_, fun i c z hi hz => ?_⟩
  · rcases List.mem_append.1 hc with hc | hc
    · exact x.width c hc
    · simp only [List.mem_cons, List.not_mem_nil, or_false] at hc; subst hc; exact hw
  · rcases List.mem_append.1 hc with hc | hc
    · exact x.one c hc
    · simp only [List.mem_cons, List.not_mem_nil, or_false] at hc; subst hc; exact h1
  · rcases Nat.lt_or_ge i css.length with hlt | hge
    · rw [List.getElem?_append_left hlt] at hi
      rw [List.getElem?_append_left (by rw [← x.len]; exact hlt)] at hz
      exact x.is i c z hi hz
    · rw [List.getElem?_append_right hge] at hi
      rw [List.getElem?_append_right (by rw [← x.len]; exact hge), ← x.len] at hz
      cases hd : i - css.length with
      | zero => rw [hd] at hi hz; cases hi; cases hz; exact he
      | succ k => rw [hd] at hi; simp at hi
theorem LHeads.append {css css' : List (List Value)} {m : List α} (x : LHeads size E h B css l) (y : LHeads size E h B css' m) : LHeads size E h B (css ++ css') (l ++ m) := by
  refine ⟨by simp [x.len, y.len], fun c hc => ?_, fun c hc => ?_, fun i c z hi hz => ?_⟩
  · exact (List.mem_append.1 hc).elim (x.width c) (y.width c)
  · exact (List.mem_append.1 hc).elim (x.one c) (y.one c)
  · rcases Nat.lt_or_ge i css.length with hlt | hge
    · rw [List.getElem?_append_left hlt] at hi
      rw [List.getElem?_append_left (by rw [← x.len]; exact hlt)] at hz
      exact x.is i c z hi hz
    · rw [List.getElem?_append_right hge] at hi
      rw [List.getElem?_append_right (by rw [← x.len]; exact hge), ← x.len] at hz
      exact y.is _ c z hi hz
theorem LHeads.take {css : List (List Value)} (x : LHeads size E h B css l) (n : Nat) : LHeads size E h B (css.take n) (l.take n) := by
  refine ⟨by simp [x.len], fun c hc => x.width c (List.mem_of_mem_take hc), fun c hc => x.one c (List.mem_of_mem_take hc), fun i c z hi hz => ?_⟩
  rw [List.getElem?_take] at hi hz
  split at hi
  · rename_i hlt; rw [if_pos hlt] at hz; exact x.is i c z hi hz
  · cases hi
theorem LHeads.drop {css : List (List Value)} (x : LHeads size E h B css l) (n : Nat) : LHeads size E h B (css.drop n) (l.drop n) := by
  refine ⟨by simp [x.len], fun c hc => x.width c (List.mem_of_mem_drop hc), fun c hc => x.one c (List.mem_of_mem_drop hc), fun i c z hi hz => ?_⟩
  rw [List.getElem?_drop] at hi hz
  exact x.is _ c z hi hz
theorem LHeads.base {B0 : Nat} (hb : ∀ (cs : List Value) (x : α), E h B cs x → E h B0 cs x) {css : List (List Value)} (x : LHeads size E h B css l) : LHeads size E h B0 css l := ⟨x.len, x.width, x.one, fun i cs y hi hy => hb _ _ (x.is i cs y hi hy)⟩

theorem OwnL.ext {h' : Mem} (x : OwnL e size E h B' B s l) (hst : Stab E) (k : Ext h.size h h') : OwnL e size E h' B' B s l := let ⟨css, o, hh⟩ := x; ⟨css, o.ext k, hh.keep hst (Ext.keepB k)⟩
theorem OwnL.base {B0' B0 : Nat} (x : OwnL e size E h B' B s l) (h1 : B0' ≤ B') (hb : ∀ (cs : List Value) (x : α), E h B cs x → E h B0 cs x) : OwnL e size E h B0' B0 s l := let ⟨css, o, hh⟩ := x; ⟨css, o.base h1, hh.base hb⟩
theorem OwnL.len (x : OwnL e size E h B' B s l) (hs : 0 < size) : s.len = l.length := by
  obtain ⟨css, o, hh⟩ := x
  have := o.1
  rw [flatten_length hh.width, hh.len] at this
  exact (Nat.eq_of_mul_eq_mul_right hs this).symm
theorem OwnL.get (x : OwnL e size E h B' B s l) (hs : 0 < size) {i : Nat} {y : α} (hy : l[i]? = some y) : ∃ a cs, s.a = some a ∧ Cells h (a.add (i * size)) cs ∧ E h B cs y ∧ cs.length = size ∧ ∀ u ∈ cs, u.oneCell' = true := by
  have hlen := x.len hs
  obtain ⟨css, o, hh⟩ := x
  have hi := (List.getElem?_eq_some_iff.1 hy).1
  obtain ⟨a, ha⟩ := o.some (by omega)
  obtain ⟨g, rfl⟩ := o.addr ha
  obtain ⟨cs, hcs⟩ : ∃ q, css[i]? = some q := ⟨_, List.getElem?_eq_getElem (by rw [hh.len]; exact hi)⟩
  refine ⟨_, cs, ha, fun j v hv => ?_, hh.is i cs y hcs hy, hh.width cs (List.mem_of_getElem? hcs), hh.one cs (List.mem_of_getElem? hcs)⟩
  have := o.cells ha (i * size + j) v (flatten_get hh.width hcs hv)
  rw [add_off] at this
  rw [add_off, add_off]
  simpa [Nat.add_assoc] using this

/-- an element is appended -/
theorem OwnL.push {t : TypeId} {bytes : Nat} {a : Addr} {cs : List Value} {y : α} {K : Sl → Mem → Prop} (ht : PG.underlying t = some (.slice e)) (hi : infoOk PG e size bytes = true) (hne : e ≠ ty_uint8) (hst : Stab E) (hB : B' ≤ h.size) (x : OwnL e size E h B' B s l)
    (hc : Cells h a cs) (hw : cs.length = size) (h1 : ∀ u ∈ cs, u.oneCell' = true) (he : E h B cs y) (hb0 : 0 < bytes) (hs0 : 0 < size) (hs : (l.length + 1) * bytes ≤ 140737488355328)
    (hk : ∀ s' h', OwnL e size E h' B' B s' (l ++ [y]) → Ext B' h h' → Grown s h h' → KeepB h h' → K s' h') :
    PrimT PG (Builtin.append_ #[t, t] t #[sval s, sval ⟨some a, 1, 1⟩]) (.one (.leaf .sl)) h K := by
  have hlen := x.len hs0
  obtain ⟨css, o, hh⟩ := x
  refine append_go (v := ⟨some a, 1, 1⟩) ht hi o (news := cs) (by rw [hw]; show size = 1 * size; omega) (fun b hb => by cases hb; exact hc) (fun hn => by cases hn) h1 (by rw [hlen]; exact hs) hb0 hB fun s' h' _ ho g => ?_
  have kb := Grown.keepB o hne g
  refine hk s' h' ⟨css ++ [cs], ?_, (hh.keep hst kb).snoc hw h1 (hst _ _ _ _ _ he kb)⟩ (o.grownExt hB g) g kb
  rw [List.flatten_append]
  simpa using ho
/-- a list is appended -/
theorem OwnL.pushAll {t : TypeId} {bytes : Nat} {v : Sl} {m : List α} {css' : List (List Value)} {K : Sl → Mem → Prop} (ht : PG.underlying t = some (.slice e)) (hi : infoOk PG e size bytes = true) (hne : e ≠ ty_uint8) (hst : Stab E) (hB : B' ≤ h.size) (x : OwnL e size E h B' B s l)
    (hc : ∀ a, v.a = some a → Cells h a css'.flatten) (hv : v.len = m.length) (hnil : v.a = none → v.len = 0 ∧ v.cap = 0) (hm : LHeads size E h B css' m) (hb0 : 0 < bytes) (hs0 : 0 < size) (hs : (l.length + m.length) * bytes ≤ 140737488355328)
    (hk : ∀ s' h', OwnL e size E h' B' B s' (l ++ m) → Ext B' h h' → Grown s h h' → KeepB h h' → K s' h') :
    PrimT PG (Builtin.append_ #[t, t] t #[sval s, sval v]) (.one (.leaf .sl)) h K := by
  have hlen := x.len hs0
  obtain ⟨css, o, hh⟩ := x
  refine append_go ht hi o (news := css'.flatten) (by rw [flatten_length hm.width, hm.len, hv]) hc hnil (fun u hu => ?_) (by rw [hlen, hv]; exact hs) hb0 hB fun s' h' _ ho g => ?_
  · obtain ⟨cs, h1, h2⟩ := List.mem_flatten.1 hu
    exact hm.one cs h1 u h2
  have kb := Grown.keepB o hne g
  refine hk s' h' ⟨css ++ css', ?_, (hh.keep hst kb).append (hm.keep hst kb)⟩ (o.grownExt hB g) g kb
  rw [List.flatten_append]
  exact ho
end
end Go.Dn.W
