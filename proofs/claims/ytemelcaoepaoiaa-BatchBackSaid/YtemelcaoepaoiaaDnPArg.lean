/- Arguments: bytes, pairs, operations. -/
import Derived.Test.YtemelcaoepaoiaaDnArg
import Derived.Test.YtemelcaoepaoiaaDnOpl
set_option linter.unusedVariables false
namespace Go.Dn.W
open Go Go.Dn Go.Proofs

theorem bytesOf_u8 : PG.bytesOf ty_uint8 = 1 := by kernel_rfl
theorem cellsOf_u8 : PG.cellsOf ty_uint8 = 1 := by kernel_rfl
theorem bytesOf_pair : PG.bytesOf ty_api_Pair = 40 := by kernel_rfl
theorem cellsOf_pair : PG.cellsOf ty_api_Pair = 2 := by kernel_rfl
theorem bytesOf_op : PG.bytesOf ty_api_Op = 48 := by kernel_rfl
theorem cellsOf_op : PG.cellsOf ty_api_Op = 3 := by kernel_rfl
theorem cellsOf_str : PG.cellsOf ty_string = 1 := by kernel_rfl
theorem cellsOf_bytes : PG.cellsOf ty_sl_uint8 = 1 := by kernel_rfl
theorem cellsOf_bool : PG.cellsOf ty_bool = 1 := by kernel_rfl
/-- a struct's fields: types and offsets -/
noncomputable def fieldsOf (t : TypeId) : List (TypeId × Nat) := match PG.underlying t with | some (.struct fs) => fs.toList.map fun f => (f.type, f.offset) | _ => []
theorem fields_spec {t : TypeId} {l : List (TypeId × Nat)} (h : fieldsOf t = l) (hne : l ≠ []) : ∃ fs, PG.underlying t = some (.struct fs) ∧ ∀ (i : Nat) (u o : Nat), l[i]? = some (u, o) → ∃ f, fs[i]? = some f ∧ f.type = u ∧ f.offset = o := by
  unfold fieldsOf at h
  split at h
  · rename_i fs hfs
    refine ⟨fs, hfs, fun i u o hi => ?_⟩
    rw [← h, List.getElem?_map, Array.getElem?_toList] at hi
    cases hf : fs[i]? with
    | none => rw [hf] at hi; cases hi
    | some f => rw [hf] at hi; cases hi; exact ⟨f, rfl, rfl, rfl⟩
  · exact absurd h.symm hne
theorem fields_pair : fieldsOf ty_api_Pair = [(ty_string, 0), (ty_sl_uint8, 1)] := by kernel_rfl
theorem fields_op : fieldsOf ty_api_Op = [(ty_string, 0), (ty_sl_uint8, 1), (ty_bool, 2)] := by kernel_rfl

section
variable {H : Type} {enc : TypeId × Value → H} {w : World} {R : Nat}

theorem arg_u8 {cs : List Value} (a : Arg enc PG w ty_uint8 cs R) : ∃ b : UInt8, cs = [bcell b] := by
  obtain ⟨n, rfl, h0, h1⟩ := a.int und_u8
  have h0 : 0 ≤ n := h0
  have h1 : n ≤ 2 ^ 8 - 1 := h1
  refine ⟨UInt8.ofNat n.toNat, ?_⟩
  unfold bcell
  have : ((UInt8.ofNat n.toNat).toNat : Int) = n := by
    rw [UInt8.toNat_ofNat']
    omega
  rw [this]
theorem arg_bytes {cs : List Value} (a : Arg enc PG w ty_sl_uint8 cs R) : ∃ (s : Sl) (l : List UInt8), cs = [sval s] ∧ BytesSl w.heap s l ∧ l.length ≤ R := by
  obtain ⟨s, rfl, hn, hl, hb, _, he⟩ := a.slice und_bytes
  rw [bytesOf_u8, Nat.mul_one] at hb
  rw [cellsOf_u8] at he
  obtain ⟨l, hll, hr⟩ := list_of (n := s.len) (R := fun i (b : UInt8) => ∃ p, s.a = some p ∧ Cells w.heap (p.add (i * 1)) [bcell b]) fun i hi => by
    obtain ⟨p, ecs, hp, hc, _, ha⟩ := he i (by omega)
    obtain ⟨b, rfl⟩ := arg_u8 ha
    exact ⟨b, p, hp, hc⟩
  refine ⟨s, l, rfl, ⟨hll.symm, ?_, fun h => (hn h).2⟩, by omega⟩
  cases ha : s.a with
  | none => exact List.eq_nil_of_length_eq_zero (by rw [hll]; exact (hn ha).1)
  | some p =>
    intro i b hb'
    obtain ⟨q, hq, hc⟩ := hr i b hb'
    rw [ha] at hq
    cases hq
    have := hc 0 _ rfl
    rw [Nat.mul_one] at this
    exact this
theorem take1 {cs : List Value} {v : Value} {o n : Nat} (h : (cs.drop o).take 1 = [v]) : cs[o]? = some v := by
  have := congrArg (·[0]?) h
  simp only [List.getElem?_take, List.getElem?_drop] at this
  simpa using this
theorem arg_pair {cs : List Value} (a : Arg enc PG w ty_api_Pair cs R) : ∃ (k : ByteArray) (s : Sl) (l : List UInt8), cs = pcells k s ∧ BytesSl w.heap s l ∧ k.size ≤ R ∧ l.length ≤ R := by
  obtain ⟨fs, hu, hf⟩ := fields_spec fields_pair (by simp)
  obtain ⟨hl, hr⟩ := a.struct hu
  obtain ⟨f0, hf0, ht0, ho0⟩ := hf 0 _ _ rfl
  obtain ⟨f1, hf1, ht1, ho1⟩ := hf 1 _ _ rfl
  have a0 := hr 0 f0 hf0
  have a1 := hr 1 f1 hf1
  rw [ht0, ho0, cellsOf_str] at a0
  rw [ht1, ho1, cellsOf_bytes] at a1
  rw [cellsOf_pair] at hl
  obtain ⟨k, hk, hks⟩ := a0.str und_str
  obtain ⟨s, l, hs, hb, hbl⟩ := arg_bytes a1
  refine ⟨k, s, l, ?_, hb, hks, hbl⟩
  match cs, hl with
  | [c0, c1], _ => simp at hk hs; rw [hk, hs]; rfl
theorem arg_op {cs : List Value} (a : Arg enc PG w ty_api_Op cs R) : ∃ (k : ByteArray) (s : Sl) (l : List UInt8) (d : Bool), cs = ocells k s d ∧ BytesSl w.heap s l ∧ k.size ≤ R ∧ l.length ≤ R := by
  obtain ⟨fs, hu, hf⟩ := fields_spec fields_op (by simp)
  obtain ⟨hl, hr⟩ := a.struct hu
  obtain ⟨f0, hf0, ht0, ho0⟩ := hf 0 _ _ rfl
  obtain ⟨f1, hf1, ht1, ho1⟩ := hf 1 _ _ rfl
  obtain ⟨f2, hf2, ht2, ho2⟩ := hf 2 _ _ rfl
  have a0 := hr 0 f0 hf0
  have a1 := hr 1 f1 hf1
  have a2 := hr 2 f2 hf2
  rw [ht0, ho0, cellsOf_str] at a0
  rw [ht1, ho1, cellsOf_bytes] at a1
  rw [ht2, ho2, cellsOf_bool] at a2
  rw [cellsOf_op] at hl
  obtain ⟨k, hk, hks⟩ := a0.str und_str
  obtain ⟨s, l, hs, hb, hbl⟩ := arg_bytes a1
  obtain ⟨d, hd⟩ := a2.bool und_bool
  refine ⟨k, s, l, d, ?_, hb, hks, hbl⟩
  match cs, hl with
  | [c0, c1, c2], _ => simp at hk hs hd; rw [hk, hs, hd]; rfl

/-- pairs that were handed in -/
structure PairsIn (h : Mem) (s : Sl) (l : List Pr) (R : Nat := 140737488351232) : Prop where
  at_ : PairsAt h s l
  le : s.len ≤ s.cap
  size : l.length * 40 ≤ R
  key : ∀ p ∈ l, p.key.size ≤ R
  val : ∀ p ∈ l, p.val.length ≤ R
structure OpsIn (h : Mem) (s : Sl) (l : List Opn) (R : Nat := 140737488351232) : Prop where
  at_ : OpsAt h s l
  le : s.len ≤ s.cap
  size : l.length * 48 ≤ R
  key : ∀ p ∈ l, p.key.size ≤ R
  val : ∀ p ∈ l, p.val.length ≤ R
theorem PairsIn.short {h : Mem} {s : Sl} {l : List Pr} (x : PairsIn h s l) : Short l := fun i p hp => Nat.le_trans (x.val p (List.mem_of_getElem? hp)) (by decide)
theorem OpsIn.short {h : Mem} {s : Sl} {l : List Opn} (x : OpsIn h s l) : ShortO l := fun i p hp => Nat.le_trans (x.val p (List.mem_of_getElem? hp)) (by decide)
theorem PairsIn.up {h : Mem} {s : Sl} {l : List Pr} (x : PairsIn h s l R) (hR : R ≤ 140737488351232) : PairsIn h s l := ⟨x.at_, x.le, Nat.le_trans x.size hR, fun p hp => Nat.le_trans (x.key p hp) hR, fun p hp => Nat.le_trans (x.val p hp) hR⟩
theorem OpsIn.up {h : Mem} {s : Sl} {l : List Opn} (x : OpsIn h s l R) (hR : R ≤ 140737488351232) : OpsIn h s l := ⟨x.at_, x.le, Nat.le_trans x.size hR, fun p hp => Nat.le_trans (x.key p hp) hR, fun p hp => Nat.le_trans (x.val p hp) hR⟩
theorem OpsIn.ok {h : Mem} {s : Sl} {l : List Opn} (x : OpsIn h s l) (i : Nat) (o : Opn) (ho : l[i]? = some o) : opLen o ≤ 281474976710656 := by
  have h1 := x.key o (List.mem_of_getElem? ho)
  have h2 := x.val o (List.mem_of_getElem? ho)
  unfold opLen; omega

theorem arg_pairs {cs : List Value} (a : Arg enc PG w ty_sl_api_Pair cs R) : ∃ (s : Sl) (l : List Pr), cs = [sval s] ∧ PairsIn w.heap s l R := by
  obtain ⟨s, rfl, hn, hl, hb, _, he⟩ := a.slice und_pairs
  rw [bytesOf_pair] at hb
  rw [cellsOf_pair] at he
  obtain ⟨l, hll, hr⟩ := list_of (n := s.len) (R := fun i (p : Pr) => ∃ ad, s.a = some ad ∧ PairAt w.heap (ad.add (i * 2)) p ∧ p.key.size ≤ R ∧ p.val.length ≤ R) fun i hi => by
    obtain ⟨p, ecs, hp, hc, _, ha⟩ := he i (by omega)
    obtain ⟨k, v, l, rfl, hb, h1, h2⟩ := arg_pair ha
    exact ⟨⟨k, l⟩, p, hp, ⟨v, hc, hb⟩, h1, h2⟩
  have mem : ∀ p ∈ l, p.key.size ≤ R ∧ p.val.length ≤ R := fun p hp => by
    obtain ⟨i, hi⟩ := List.getElem?_of_mem hp
    obtain ⟨_, _, _, h1, h2⟩ := hr i p hi
    exact ⟨h1, h2⟩
  exact ⟨s, l, rfl, ⟨hll.symm, fun i p hp => let ⟨ad, h1, h2, _⟩ := hr i p hp; ⟨ad, h1, h2⟩, fun h => (hn h).2⟩, hl, by rw [hll]; omega, fun p hp => (mem p hp).1, fun p hp => (mem p hp).2⟩
theorem arg_ops {cs : List Value} (a : Arg enc PG w ty_sl_api_Op cs R) : ∃ (s : Sl) (l : List Opn), cs = [sval s] ∧ OpsIn w.heap s l R := by
  obtain ⟨s, rfl, hn, hl, hb, _, he⟩ := a.slice und_ops
  rw [bytesOf_op] at hb
  rw [cellsOf_op] at he
  obtain ⟨l, hll, hr⟩ := list_of (n := s.len) (R := fun i (p : Opn) => ∃ ad, s.a = some ad ∧ OpAt w.heap (ad.add (i * 3)) p ∧ p.key.size ≤ R ∧ p.val.length ≤ R) fun i hi => by
    obtain ⟨p, ecs, hp, hc, _, ha⟩ := he i (by omega)
    obtain ⟨k, v, l, d, rfl, hb, h1, h2⟩ := arg_op ha
    exact ⟨⟨k, l, d⟩, p, hp, ⟨v, hc, hb⟩, h1, h2⟩
  have mem : ∀ p ∈ l, p.key.size ≤ R ∧ p.val.length ≤ R := fun p hp => by
    obtain ⟨i, hi⟩ := List.getElem?_of_mem hp
    obtain ⟨_, _, _, h1, h2⟩ := hr i p hi
    exact ⟨h1, h2⟩
  exact ⟨s, l, rfl, ⟨hll.symm, fun i p hp => let ⟨ad, h1, h2, _⟩ := hr i p hp; ⟨ad, h1, h2⟩, fun h => (hn h).2⟩, hl, by rw [hll]; omega, fun p hp => (mem p hp).1, fun p hp => (mem p hp).2⟩

/-! ### what is handed in -/

theorem in_pairs {v : Value} {base : Nat} (ok : Value.okWide PG w .any base ty_sl_api_Pair v) (a : Arg enc PG w ty_sl_api_Pair v.cells.toList R) : ∃ (s : Sl) (l : List Pr), v = sval s ∧ PairsIn w.heap s l R := by
  obtain ⟨x, n, c, rfl⟩ := WideShapes.okWide_slice und_pairs ok
  obtain ⟨s, l, e, i⟩ := arg_pairs a
  exact ⟨s, l, by simpa [Value.cells] using e, i⟩
theorem in_ops {v : Value} {base : Nat} (ok : Value.okWide PG w .any base ty_sl_api_Op v) (a : Arg enc PG w ty_sl_api_Op v.cells.toList R) : ∃ (s : Sl) (l : List Opn), v = sval s ∧ OpsIn w.heap s l R := by
  obtain ⟨x, n, c, rfl⟩ := WideShapes.okWide_slice und_ops ok
  obtain ⟨s, l, e, i⟩ := arg_ops a
  exact ⟨s, l, by simpa [Value.cells] using e, i⟩
theorem in_bytes {v : Value} {base : Nat} (ok : Value.okWide PG w .any base ty_sl_uint8 v) (a : Arg enc PG w ty_sl_uint8 v.cells.toList R) : ∃ (s : Sl) (l : List UInt8), v = sval s ∧ BytesSl w.heap s l ∧ l.length ≤ R := by
  obtain ⟨x, n, c, rfl⟩ := WideShapes.okWide_slice und_bytes ok
  obtain ⟨s, l, e, i⟩ := arg_bytes a
  exact ⟨s, l, by simpa [Value.cells] using e, i⟩
theorem in_str {v : Value} {base : Nat} (ok : Value.okWide PG w .any base ty_string v) (a : Arg enc PG w ty_string v.cells.toList R) : ∃ s : ByteArray, v = .string s ∧ s.size ≤ R := by
  obtain ⟨x, rfl⟩ := WideShapes.okWide_string und_str ok
  obtain ⟨s, e, i⟩ := a.str und_str
  exact ⟨s, by simpa [Value.cells] using e, i⟩
theorem in_int {v : Value} {base : Nat} (ok : Value.okWide PG w .any base ty_int v) (a : Arg enc PG w ty_int v.cells.toList R) : ∃ n : Int, v = .int .i64 n ∧ -9223372036854775808 ≤ n ∧ n ≤ 9223372036854775807 := by
  have ui : PG.underlying ty_int = some (.int .i64) := by kernel_rfl
  obtain ⟨x, rfl⟩ := WideShapes.okWide_int ui ok
  obtain ⟨s, e, i⟩ := a.int ui
  refine ⟨s, by simpa [Value.cells] using e, ?_⟩
  have h1 : IntKind.i64.min = -9223372036854775808 := by decide
  have h2 : IntKind.i64.max = 9223372036854775807 := by decide
  rw [h1, h2] at i
  exact i
theorem in_op {v : Value} {base : Nat} (ok : Value.okWide PG w .any base ty_api_Op v) (a : Arg enc PG w ty_api_Op v.cells.toList R) :
    ∃ (s : Sl) (o : Opn), v = .agg #[.string o.key, sval s, .bool o.del] ∧ BytesSl w.heap s o.val ∧ o.key.size ≤ R ∧ o.val.length ≤ R := by
  obtain ⟨fs, hu, _⟩ := fields_spec fields_op (by simp)
  unfold Value.okWide at ok
  rw [hu] at ok
  obtain ⟨cs, rfl, _⟩ := ok
  obtain ⟨k, s, l, d, e, hb, h1, h2⟩ := arg_op a
  refine ⟨s, ⟨k, l, d⟩, ?_, hb, h1, h2⟩
  have : cs = #[.string k, sval s, .bool d] := by
    apply Array.ext'
    exact e
  rw [this]
end
end Go.Dn.W
