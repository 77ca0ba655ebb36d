/- Bytes: what the functions on slices of bytes do. -/
import Derived.Test.YtemelcaoepaoiaaDnPair
import Derived.Test.YtemelcaoepaoiaaDnWB
import Derived.Test.YtemelcaoepaoiaaDnWC
import Derived.Test.YtemelcaoepaoiaaDnWD
namespace Go.Dn.W
open Go Go.Dn Go.Proofs

theorem und_bytes : PG.underlying ty_sl_uint8 = some (.slice ty_uint8) := by kernel_rfl
theorem und_u8 : PG.underlying ty_uint8 = some (.int .u8) := by kernel_rfl
theorem agg_u8 : isAggB PG ty_uint8 = false := by kernel_rfl
theorem sz_u8 : szOf PG ty_uint8 = 1 := by kernel_rfl
theorem info_u8 : infoOk PG ty_uint8 1 1 = true := by kernel_rfl

section
variable {h : Mem}

/-- bytes appended to bytes -/
theorem append_bytes {B : Nat} {s v : Sl} {xs l : List UInt8} (hB : B ≤ h.size) (o : OwnB h B ty_uint8 s xs) (b : BytesSl h v l) (hs : xs.length + l.length ≤ 140737488355328) {K : Sl → Mem → Prop}
    (hk : ∀ s' h', OwnB h' B ty_uint8 s' (xs ++ l) → Grown s h h' → K s' h') : PrimT PG (Builtin.append_ #[ty_sl_uint8, ty_sl_uint8] ty_sl_uint8 #[.slice s.a s.len s.cap, .slice v.a v.len v.cap]) (.one (.leaf .sl)) h K :=
  append_go und_bytes info_u8 o (by rw [List.length_map, b.len, Nat.mul_one]) b.cells b.nil0 one_bcell (by rw [o.len, b.len]; omega) (by decide) hB fun s' h' _ ho g => hk s' h' (by unfold OwnB; rw [List.map_append]; exact ho) g

theorem ct_CopyBytes {s : Sl} {l : List UInt8} {Q : Sl → Mem → Prop} (b : BytesSl h s l) (hl : l.length ≤ 140737488355328) (q : ∀ s' h', Ext h.size h h' → OwnB h' h.size ty_uint8 s' l → Q s' h') :
    CallF PG fn_dunnagehelp_CopyBytes [.slice s.a s.len s.cap] (.one (.leaf .sl)) h Q := by
  refine call_dunnagehelp_CopyBytes (append_bytes (s := ⟨none, 0, 0⟩) (xs := []) (v := s) (B := h.size) (Nat.le_refl _) (Owns.nil h _ _ _) b (by simpa using hl) fun s' h' o g => q s' h' ?_ o)
  exact g.ext (Nat.le_refl _) fun a ha => by cases ha

theorem ct_Clone {s : Sl} {l : List UInt8} {Q : Sl → Mem → Prop} (b : BytesSl h s l) (hl : l.length ≤ 140737488355328) (q : ∀ s' h', Ext h.size h h' → OwnB h' h.size ty_uint8 s' l → Q s' h') :
    CallF PG fn_slices_Clone_byte_byte_ [.slice s.a s.len s.cap] (.one (.leaf .sl)) h Q := by
  refine call_slices_Clone_byte_byte_ ?_
  unfold wp_slices_Clone_byte_byte_
  cases ha : s.a with
  | none =>
    have := b.at_
    rw [ha] at this
    have hl : l = [] := this
    subst hl
    exact Br.t rfl (q ⟨none, 0, 0⟩ h (Ext.refl _ _) (Owns.nil h _ _ _))
  | some a =>
    refine Br.f rfl (New.go fun h1 e1 x1 z1 r1 => ?_)
    have ho : OwnB h1 h.size ty_uint8 ⟨some ⟨h.size, 0, none⟩, 0, 0⟩ [] := ⟨rfl, .inr ⟨h.size, 0, #[], rfl, Nat.le_refl _, r1, Nat.le_refl _, Nat.zero_le _, rfl, rfl⟩⟩
    have := append_bytes (s := ⟨some ⟨h.size, 0, none⟩, 0, 0⟩) (xs := []) (v := s) (B := h.size) x1.size ho (b.ext x1) (by simpa using hl) (K := fun s' h' => Q s' h')
      fun s' h' o g => q s' h' (x1.trans (ho.grownExt x1.size g)) o
    rw [ha] at this
    exact this

theorem ct_Bytes {s t : Sl} {l m : List UInt8} {Q : Bool → Mem → Prop} (b : BytesSl h s l) (c : BytesSl h t m) (q : Q (decide (l = m)) h) : CallF PG fn_dunnagehelp_Bytes [.slice s.a s.len s.cap, .slice t.a t.len t.cap] (.one (.leaf .bool)) h Q := by
  refine call_dunnagehelp_Bytes (read_bytes b.len b.at_ (read_bytes c.len c.at_ ?_))
  have : sEq ⟨l.toArray⟩ ⟨m.toArray⟩ = decide (l = m) := by
    unfold sEq
    rw [ByteArray.toList_mk, ByteArray.toList_mk, Bool.eq_iff_iff, beq_iff_eq, decide_eq_true_eq]
  rw [this]; exact q

/-! ### spoiling -/

/-- bytes in blocks from B on may have become others; nothing else -/
structure Spoilt (B : Nat) (h h' : Mem) : Prop where
  size : h'.size = h.size
  block : ∀ k, h'[k]? = h[k]? ∨ (B ≤ k ∧ ∃ (c c' : Array Value) (e : TypeId), h[k]? = some (.cells c e (0, 0)) ∧ h'[k]? = some (.cells c' e (0, 0)) ∧ c'.size = c.size ∧ ∀ i : Nat, c'[i]? = c[i]? ∨ ((∃ b, c[i]? = some (bcell b)) ∧ ∃ b, c'[i]? = some (bcell b)))

theorem Spoilt.refl (B : Nat) (h : Mem) : Spoilt B h h := ⟨rfl, fun _ => .inl rfl⟩
theorem Spoilt.trans {B : Nat} {a b c : Mem} (x : Spoilt B a b) (y : Spoilt B b c) : Spoilt B a c := by
  refine ⟨y.size.trans x.size, fun k => ?_⟩
  rcases x.block k with h1 | ⟨hB, c1, c2, e, g1, g2, hs, hc⟩
  · rcases y.block k with h2 | ⟨hB, c1, c2, e, g1, g2, hs, hc⟩
    · exact .inl (h2.trans h1)
    · exact .inr ⟨hB, c1, c2, e, by rw [← h1]; exact g1, g2, hs, hc⟩
  · rcases y.block k with h2 | ⟨_, d1, d2, e', k1, k2, hs', hd⟩
    · exact .inr ⟨hB, c1, c2, e, g1, by rw [h2]; exact g2, hs, hc⟩
    · rw [g2] at k1
      cases k1
      refine .inr ⟨hB, c1, d2, e, g1, k2, hs'.trans hs, fun i => ?_⟩
      rcases hc i with h3 | ⟨h3, h4⟩
      · rcases hd i with h5 | ⟨h5, h6⟩
        · exact .inl (h5.trans h3)
        · exact .inr ⟨by rw [← h3]; exact h5, h6⟩
      · rcases hd i with h5 | ⟨_, h6⟩
        · exact .inr ⟨h3, by rw [h5]; exact h4⟩
        · exact .inr ⟨h3, h6⟩
theorem Spoilt.ext {B : Nat} {h h' : Mem} (x : Spoilt B h h') : Ext B h h' := ⟨Nat.le_of_eq x.size.symm, fun k hk => by
  rcases x.block k with h1 | ⟨hB, _⟩
  · exact h1
  · omega⟩
/-- a cell that is no byte stands -/
theorem Spoilt.cell {B : Nat} {h h' : Mem} (x : Spoilt B h h') {a : Addr} {v : Value} (hc : cellAt h a = some v) (hv : ∀ b, v ≠ bcell b) : cellAt h' a = some v := by
  unfold cellAt at *
  rcases x.block a.block with h1 | ⟨_, c, c', e, g1, g2, _, hcc⟩
  · rw [h1]; exact hc
  · rw [g1] at hc
    rw [g2]
    simp only at hc ⊢
    split
    · rename_i hs; rw [if_pos hs] at hc; cases hc
    · rename_i hs
      rw [if_neg hs] at hc
      rcases hcc a.off with h1 | ⟨⟨b, h1⟩, _⟩
      · rw [h1]; exact hc
      · rw [h1] at hc; cases hc; exact absurd rfl (hv b)

/-- some bytes that a function has made -/
def SomeB (h : Mem) (B : Nat) (e : TypeId) (s : Sl) : Prop := ∃ l, OwnB h B e s l

theorem take_bytes {c : List Value} {n : Nat} (hc : ∀ i, i < n → ∃ b, c[i]? = some (bcell b)) (hn : n ≤ c.length) : ∃ l : List UInt8, c.take n = l.map bcell := by
  induction n with
  | zero => exact ⟨[], by simp⟩
  | succ n ih =>
    obtain ⟨l, hl⟩ := ih (fun i hi => hc i (by omega)) (by omega)
    obtain ⟨b, hb⟩ := hc n (by omega)
    exact ⟨l ++ [b], by rw [List.take_add_one, hb, hl]; simp⟩

theorem Spoilt.someB {B B' : Nat} {h h' : Mem} (x : Spoilt B h h') {e : TypeId} {s : Sl} (o : SomeB h B' e s) : SomeB h' B' e s := by
  obtain ⟨l, o⟩ := o
  rcases o.2 with h0 | ⟨g, cap, cur, hv, hB, hg, hn, hm, hs, ht⟩
  · exact ⟨l, o.1, .inl h0⟩
  · have hg : h[g]? = some (.cells cur e (0, 0)) := hg
    rcases x.block g with h1 | ⟨_, c, c', e', g1, g2, hsz, hcc⟩
    · exact ⟨l, o.1, .inr ⟨g, cap, cur, hv, hB, by show h'[g]? = _; rw [h1]; exact hg, hn, hm, hs, ht⟩⟩
    · rw [hg] at g1
      cases g1
      have hl := o.1
      rw [List.length_map] at hl
      obtain ⟨l', hl'⟩ := take_bytes (c := c'.toList) (n := s.len * 1) (fun i hi => by
        have h2 : (cur.toList.take (s.len * 1))[i]? = (l.map bcell)[i]? := by rw [ht]
        rw [List.getElem?_take, if_pos hi, List.getElem?_map, List.getElem?_eq_getElem (by omega : i < l.length)] at h2
        simp only [Array.getElem?_toList] at h2 ⊢
        rcases hcc i with h3 | ⟨_, h3⟩
        · exact ⟨_, h3.trans h2⟩
        · exact h3) (by rw [Array.length_toList, hsz, hs]; exact Nat.mul_le_mul_right _ hn)
      refine ⟨l', ?_, .inr ⟨g, cap, c', hv, hB, g2, hn, hm, hsz.trans hs, hl'⟩⟩
      have := congrArg List.length hl'
      rw [List.length_take, Array.length_toList, hsz, hs] at this
      rw [← this]
      exact (Nat.min_eq_left (Nat.mul_le_mul_right _ hn))

theorem St_spoilt {B : Nat} {H : Mem} {s : Sl} {l : List UInt8} {i : Nat} {x : UInt8} {K : Mem → Prop} (o : OwnB H B ty_uint8 s l) (hi : i < l.length) {a : Addr} (ha : s.a = some a) (hk : ∀ h', Spoilt B H h' → K h') :
    St PG ty_uint8 (a.add (i * 1)) (.int .u8 (x.toNat : Int)) H K := by
  rcases o.2 with ⟨hv, _⟩ | ⟨g, cap, cur, hv, hB, hg, hn, hm, hs, ht⟩
  · simp only [Value.slice.injEq] at hv; rw [hv.1] at ha; cases ha
  · simp only [Value.slice.injEq] at hv
    rw [hv.1] at ha
    cases ha
    have hg : H[g]? = some (.cells cur ty_uint8 (0, 0)) := hg
    have hlen := o.len
    have hfit : i < cur.size := by rw [hs]; omega
    have hcur : cur[i]? = some (bcell l[i]) := by
      have h2 : (cur.toList.take (s.len * 1))[i]? = (l.map bcell)[i]? := by rw [ht]
      rw [List.getElem?_take, if_pos (by omega), List.getElem?_map, List.getElem?_eq_getElem hi] at h2
      simpa using h2
    rw [add_off, Nat.zero_add, Nat.mul_one]
    refine St.cell sz_u8 rfl (by rw [cellAt_row hg, hcur]; rfl) (by rw [frozenAt_row hg]; simp) (hk _ ⟨setAt_size _ _ _, fun k => ?_⟩)
    by_cases hkg : k = g
    · subst hkg
      refine .inr ⟨hB, cur, _, ty_uint8, hg, setAt_self H k i _ hg, by simp, fun j => ?_⟩
      by_cases hj : j = i
      · subst hj
        exact .inr ⟨⟨_, hcur⟩, x, by simp [hfit]; rfl⟩
      · exact .inl (Array.getElem?_setIfInBounds_ne fun e => hj e.symm)
    · exact .inl (setAt_ne _ _ _ hkg)

theorem xor_byte (x : UInt8) : ∃ y : UInt8, bitsOf .xor .u8 (x.toNat : Int) 85 = (y.toNat : Int) := by
  refine ⟨UInt8.ofNat (bitsOf .xor .u8 (x.toNat : Int) 85).toNat, ?_⟩
  have h0 : 0 ≤ bitsOf .xor .u8 (x.toNat : Int) 85 ∧ bitsOf .xor .u8 (x.toNat : Int) 85 < 256 := by
    unfold bitsOf IntKind.wrap
    have : IntKind.u8.bits = 8 := rfl
    simp only [this]
    have hs : IntKind.u8.signed = false := rfl
    simp only [hs, Bool.false_and, Bool.false_eq_true, if_false]
    constructor
    · exact Int.emod_nonneg _ (by decide)
    · exact Int.emod_lt_of_pos _ (by decide)
  rw [UInt8.toNat_ofNat']
  omega

theorem ct_Spoil {B : Nat} {s : Sl} {Q : Mem → Prop} (o : SomeB h B ty_uint8 s) (hl : s.len ≤ 140737488355328) (q : ∀ h', Spoilt B h h' → Q h') : CallF PG fn_dunnagehelp_Spoil [.slice s.a s.len s.cap] (.tup []) h Q := by
  refine call_dunnagehelp_Spoil ?_
  refine ⟨fun n h' => ∃ m : Nat, n = (m : Int) ∧ m ≤ s.len ∧ Spoilt B h h', fun n _ => s.len - n.toNat, ⟨0, rfl, Nat.zero_le _, Spoilt.refl _ _⟩, ?_⟩
  rintro _ n h1 ⟨m, rfl, hm, x⟩
  refine Br.mk (fun h2 => ?_) fun _ => q _ x
  simp only [decide_eq_true_eq] at h2
  obtain ⟨l, o1⟩ := x.someB o
  have hlen := o1.len
  have hml : m < l.length := by omega
  cases ha : s.a with
  | none => have := (Owns.nil0 o1 ha).1; omega
  | some a =>
    have hc := o1.bytes.at_
    rw [ha] at hc
    have hcell := hc m l[m] (List.getElem?_eq_getElem hml)
    have ea : a.add ((m : Int).toNat * 1) = a.add m := by simp
    refine Idx.mk rfl (by omega) ?_
    rw [ea]
    refine Ld.cell (l := .int .u8) und_u8 agg_u8 hcell (Idx.mk rfl (by omega) ?_)
    obtain ⟨y, hy⟩ := xor_byte l[m]
    rw [ea, hy, ← Nat.mul_one m]
    refine St_spoilt o1 hml ha fun h' x' => ?_
    have ew : IntKind.i64.wrap ((m : Int) + 1) = ((m + 1 : Nat) : Int) := by rw [i64_eq (by omega) (by omega)]; omega
    rw [Nat.mul_one, ew]
    exact ⟨⟨m + 1, rfl, by omega, x.trans x'⟩, by simp only [Int.toNat_natCast]; omega⟩
end
end Go.Dn.W
