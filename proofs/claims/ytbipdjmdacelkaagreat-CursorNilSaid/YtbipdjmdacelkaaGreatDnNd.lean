/- Nodes as words: the numbers. -/
import Derived.Test.YtbipdjmdacelkaaGreatDnNw
set_option linter.unusedVariables false
namespace Go.Dn.W
open Go Go.Dn Go.Proofs

def le : List UInt8 → Nat
  | [] => 0
  | b :: l => b.toNat + 256 * le l
theorem le_lt : ∀ l : List UInt8, le l < 256 ^ l.length
  | [] => by decide
  | b :: l => by
    have := le_lt l
    have hb := b.toNat_lt
    rw [List.length_cons, Nat.pow_succ]
    unfold le
    omega
theorem le_snoc : ∀ (l : List UInt8) (b : UInt8), le (l ++ [b]) = le l + b.toNat * 256 ^ l.length
  | [], b => by simp [le]
  | c :: l, b => by
    have := le_snoc l b
    rw [List.cons_append, List.length_cons, Nat.pow_succ]
    unfold le
    rw [this, Nat.mul_add, ← Nat.mul_assoc, Nat.mul_comm 256 (b.toNat), Nat.mul_assoc, Nat.mul_comm 256 (256 ^ l.length)]
    omega
theorem le_byte : ∀ (l : List UInt8) (k : Nat) (b : UInt8), l[k]? = some b → le l / 256 ^ k % 256 = b.toNat
  | [], _, _, h => by simp at h
  | c :: l, 0, b, h => by
    cases h
    have := c.toNat_lt
    unfold le
    simp
  | c :: l, k + 1, b, h => by
    have := le_byte l k b (by simpa using h)
    have hc := c.toNat_lt
    unfold le
    rw [Nat.pow_succ, Nat.mul_comm (256 ^ k), ← Nat.div_div_eq_div_mul, show (c.toNat + 256 * le l) / 256 = le l by omega, this]
def kw (l : List UInt8) : List Nat := (List.range ((l.length + 3) / 4)).map fun c => le ((l.drop (4 * c)).take 4)
theorem kw_len (l : List UInt8) : (kw l).length = (l.length + 3) / 4 := by simp [kw]
theorem chunk_le (l : List UInt8) (c : Nat) : le ((l.drop (4 * c)).take 4) ≤ 4294967295 := by
  have h1 := le_lt ((l.drop (4 * c)).take 4)
  have h2 : ((l.drop (4 * c)).take 4).length ≤ 4 := by rw [List.length_take]; omega
  have h3 : 256 ^ ((l.drop (4 * c)).take 4).length ≤ 256 ^ 4 := Nat.pow_le_pow_right (by decide) h2
  have h4 : (256 : Nat) ^ 4 = 4294967296 := by decide
  omega
theorem kw_le {l : List UInt8} : ∀ v ∈ kw l, v ≤ 4294967295 := fun v hv => by
  obtain ⟨c, _, rfl⟩ := List.mem_map.1 hv
  exact chunk_le l c
theorem kw_get (l : List UInt8) {c : Nat} (hc : c < (l.length + 3) / 4) : (kw l)[c]? = some (le ((l.drop (4 * c)).take 4)) := by
  simp [kw, List.getElem?_range hc]
theorem kw_at {l : List UInt8} {k : Nat} {b : UInt8} (hb : l[k]? = some b) : ∃ v, (kw l)[k / 4]? = some v ∧ v ≤ 4294967295 ∧ v / 256 ^ (k % 4) % 256 = b.toNat := by
  have hk := (List.getElem?_eq_some_iff.1 hb).1
  refine ⟨_, kw_get l (by omega), chunk_le l _, le_byte _ _ _ ?_⟩
  rw [List.getElem?_take, if_pos (by omega), List.getElem?_drop, show 4 * (k / 4) + k % 4 = k by omega]
  exact hb

theorem u64_nat {n : Nat} (h : n < 18446744073709551616) : (BitVec.ofInt 64 (n : Int)).toNat = n := by
  rw [BitVec.toNat_ofInt]
  omega
theorem u32_nat {n : Nat} (h : n < 4294967296) : (BitVec.ofInt 32 (n : Int)).toNat = n := by
  rw [BitVec.toNat_ofInt]
  omega
theorem or_add {n v x : Nat} (hv : v < 2 ^ n) : v ||| (x * 2 ^ n) = v + x * 2 ^ n := by
  have := Nat.shiftLeft_add_eq_or_of_lt hv x
  rw [Nat.shiftLeft_eq] at this
  rw [Nat.or_comm, ← this, Nat.add_comm]
theorem or64 {n v x : Nat} (hv : v < 2 ^ n) (hx : x * 2 ^ n + v < 18446744073709551616) : bitsOf BinOp.or IntKind.u64 (v : Int) ((x * 2 ^ n : Nat) : Int) = ((v + x * 2 ^ n : Nat) : Int) := by
  unfold bitsOf
  show IntKind.u64.wrap (((BitVec.ofInt 64 (v : Int) ||| BitVec.ofInt 64 ((x * 2 ^ n : Nat) : Int)).toNat : Nat) : Int) = _
  rw [BitVec.toNat_or, u64_nat (by omega), u64_nat (by omega), or_add hv, u64_eq (by omega)]
theorem or32 {n v x : Nat} (hv : v < 2 ^ n) (hx : x * 2 ^ n + v < 4294967296) : bitsOf BinOp.or IntKind.u32 (v : Int) ((x * 2 ^ n : Nat) : Int) = ((v + x * 2 ^ n : Nat) : Int) := by
  unfold bitsOf
  show IntKind.u32.wrap (((BitVec.ofInt 32 (v : Int) ||| BitVec.ofInt 32 ((x * 2 ^ n : Nat) : Int)).toNat : Nat) : Int) = _
  rw [BitVec.toNat_or, u32_nat (by omega), u32_nat (by omega), or_add hv, u32_eq (by omega)]
theorem shN32 {n : Nat} (hn : n ≤ 31) : shN IntKind.u32 (n : Int) = n := by
  unfold shN
  rw [show IntKind.u32.bits = 32 from rfl, Int.toNat_natCast]
  omega
theorem pow8 (n : Nat) : 2 ^ (8 * n) = 256 ^ n := by rw [Nat.pow_mul]
theorem pow8i (n : Nat) : (2 : Int) ^ (8 * n) = ((256 ^ n : Nat) : Int) := by rw [← pow8]; simp
/-- one more byte of a word -/
theorem or_byte32 {l : List UInt8} {b : UInt8} {n : Nat} (hl : l.length = n) (hn : n < 4) :
    bitsOf BinOp.or IntKind.u32 (le l : Int) (IntKind.u32.wrap (IntKind.u32.wrap (b.toNat : Int) * 2 ^ shN IntKind.u32 ((8 * n : Nat) : Int))) = (le (l ++ [b]) : Int) := by
  have h1 := le_lt (l ++ [b])
  have hs := le_snoc l b
  rw [hl] at hs
  have h2 : (l ++ [b]).length ≤ 4 := by simp; omega
  have h3 : 256 ^ (l ++ [b]).length ≤ 256 ^ 4 := Nat.pow_le_pow_right (by decide) h2
  have h4 : (256 : Nat) ^ 4 = 4294967296 := by decide
  have hb := b.toNat_lt
  have h5 := le_lt l
  rw [hl, ← pow8] at h5
  rw [shN32 (by omega), u32_eq (n := b.toNat) (by omega), pow8i]
  have e : (b.toNat : Int) * ((256 ^ n : Nat) : Int) = ((b.toNat * 2 ^ (8 * n) : Nat) : Int) := by rw [pow8]; simp
  rw [← pow8] at hs
  rw [e, u32_eq (by omega), or32 h5 (by omega), hs]
theorem byte_of {v n : Nat} {b : UInt8} (hn : n < 4) (hv : v / 256 ^ n % 256 = b.toNat) : Value.int IntKind.u8 (IntKind.u8.wrap ((v : Int).fdiv (2 ^ shN IntKind.u32 ((8 * n : Nat) : Int)))) = bcell b := by
  rw [shN32 (by omega), pow8i]
  have e : (v : Int).fdiv ((256 ^ n : Nat) : Int) = ((v / 256 ^ n : Nat) : Int) := by
    rw [Int.fdiv_eq_ediv_of_nonneg _ (Int.natCast_nonneg _)]; simp
  rw [e]
  unfold bcell
  have : IntKind.u8.wrap ((v / 256 ^ n : Nat) : Int) = ((v / 256 ^ n % 256 : Nat) : Int) := by
    simp only [IntKind.wrap, IntKind.bits, IntKind.signed]
    simp
  rw [this, hv]

/-! ### entries -/
structure Rf where
  ser : Nat
  pos : Nat
  len : Nat
abbrev En := ByteArray × Rf
def Rf.Ok (r : Rf) : Prop := r.ser ≤ 18446744073709551615 ∧ r.pos ≤ 65536 ∧ r.len ≤ 4096
structure En.Ok (e : En) : Prop where
  key : e.1.size ≤ 64
  pos : 1 ≤ e.1.size
  ref : e.2.Ok
def encR (r : Rf) : List Nat := [r.ser % 4294967296, r.ser / 4294967296, r.pos, r.len]
def encE (e : En) : List Nat := e.1.size :: kw e.1.toList ++ encR e.2
def enc (es : List En) : List Nat := (es.map encE).flatten
theorem size_list (s : ByteArray) : s.toList.length = s.size := length_toList s
theorem encE_len (e : En) : (encE e).length = 1 + (e.1.size + 3) / 4 + 4 := by
  unfold encE
  rw [List.length_append, List.length_cons, kw_len, size_list]
  show (e.1.size + 3) / 4 + 1 + 4 = _
  omega
theorem encR_le {r : Rf} (h : r.Ok) : ∀ v ∈ encR r, v ≤ 4294967295 := by
  obtain ⟨h1, h2, h3⟩ := h
  intro v hv
  simp only [encR, List.mem_cons, List.not_mem_nil, or_false] at hv
  rcases hv with rfl | rfl | rfl | rfl <;> omega
theorem encE_le {e : En} (h : e.Ok) : ∀ v ∈ encE e, v ≤ 4294967295 := by
  intro v hv
  simp only [encE, List.cons_append, List.mem_cons, List.mem_append] at hv
  rcases hv with rfl | hv | hv
  · have := h.key; omega
  · exact kw_le v hv
  · exact encR_le h.ref v hv
theorem enc_le {es : List En} (h : ∀ e ∈ es, e.Ok) : ∀ v ∈ enc es, v ≤ 4294967295 := by
  intro v hv
  obtain ⟨l, hl, hv⟩ := List.mem_flatten.1 hv
  obtain ⟨e, he, rfl⟩ := List.mem_map.1 hl
  exact encE_le (h e he) v hv
theorem enc_len {es : List En} (h : ∀ e ∈ es, e.Ok) : (enc es).length ≤ 21 * es.length := by
  induction es with
  | nil => simp [enc]
  | cons e es ih =>
    have := ih fun e he => h e (by simp [he])
    have h1 := encE_len e
    have h2 := (h e (by simp)).key
    unfold enc at *
    rw [List.map_cons, List.flatten_cons, List.length_append, List.length_cons]
    omega
def rfv (r : Rf) : List Value := rfcells (r.ser : Int) (r.pos : Int) (r.len : Int)
def ecell (e : En) : Value := .string e.1
def rfvs (es : List En) : List Value := (es.map fun e => rfv e.2).flatten
theorem rfvs_len (es : List En) : (rfvs es).length = es.length * 3 := by
  induction es with
  | nil => rfl
  | cons e es ih =>
    unfold rfvs at *
    rw [List.map_cons, List.flatten_cons, List.length_append, ih, List.length_cons]
    simp [rfv, rfcells]; omega
theorem rfvs_one {es : List En} : ∀ u ∈ rfvs es, u.oneCell' = true := by
  intro u hu
  obtain ⟨l, hl, hu⟩ := List.mem_flatten.1 hu
  obtain ⟨e, he, rfl⟩ := List.mem_map.1 hl
  simp only [rfv, rfcells, List.mem_cons, List.not_mem_nil, or_false] at hu
  rcases hu with rfl | rfl | rfl <;> rfl
theorem rfvs_app (a b : List En) : rfvs (a ++ b) = rfvs a ++ rfvs b := by simp [rfvs]
theorem rfvs_get {es : List En} {i : Nat} {e : En} (h : es[i]? = some e) : ∀ j v, (rfv e.2)[j]? = some v → (rfvs es)[i * 3 + j]? = some v := by
  induction es generalizing i with
  | nil => simp at h
  | cons f es ih =>
    intro j v hv
    unfold rfvs
    rw [List.map_cons, List.flatten_cons]
    have hf : (rfv f.2).length = 3 := rfl
    have hj : j < 3 := (List.getElem?_eq_some_iff.1 hv).1
    match i, h with
    | 0, h => cases h; rw [Nat.zero_mul, Nat.zero_add, List.getElem?_append_left (by omega)]; exact hv
    | i + 1, h =>
      rw [List.getElem?_append_right (by omega), hf, show (i + 1) * 3 + j - 3 = i * 3 + j by omega]
      exact ih (by simpa using h) j v hv
end Go.Dn.W
