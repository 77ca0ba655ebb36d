/- Numbers as bytes: word.Var and the document's. -/
import Derived.Test.YtemelcaoepaoiaaDnOpl
import Derived.Test.YtemelcaoepaoiaaDnOps
set_option linter.unusedVariables false
namespace Go.Dn.W
open Go Go.Dn Go.Proofs

/-- a number's bytes: seven bits a byte, the least first; all but the last have the eighth bit -/
def varB (n : Nat) : List UInt8 := if n < 128 then [UInt8.ofNat n] else UInt8.ofNat (n % 128 + 128) :: varB (n / 128)
termination_by n
decreasing_by omega
theorem varB_small {n : Nat} (h : n < 128) : varB n = [UInt8.ofNat n] := by rw [varB, if_pos h]
theorem varB_big {n : Nat} (h : ¬ n < 128) : varB n = UInt8.ofNat (n % 128 + 128) :: varB (n / 128) := by rw [varB, if_neg h]
theorem varB_length : ∀ (k n : Nat), n < 128 ^ (k + 1) → (varB n).length ≤ k + 1
  | 0, n, h => by rw [varB_small (by omega)]; exact Nat.le_refl _
  | k + 1, n, h => by
    by_cases hn : n < 128
    · rw [varB_small hn]; simp
    · rw [varB_big hn, List.length_cons]
      have := varB_length k (n / 128) (by rw [Nat.div_lt_iff_lt_mul (by decide)]; rw [Nat.pow_succ] at h; exact h)
      omega
theorem varB_le {n : Nat} (h : n ≤ 18446744073709551615) : (varB n).length ≤ 10 := varB_length 9 n (Nat.lt_of_le_of_lt h (by decide))
theorem varB_pos (n : Nat) : 0 < (varB n).length := by rw [varB]; split <;> simp

theorem or_byte : ∀ x : Nat, x < 256 → bitsOf BinOp.or IntKind.u8 (x : Int) 128 = ((x % 128 + 128 : Nat) : Int) := by
  have : ∀ x : Fin 256, bitsOf BinOp.or IntKind.u8 ((x : Nat) : Int) 128 = (((x : Nat) % 128 + 128 : Nat) : Int) := by decide +kernel
  exact fun x hx => this ⟨x, hx⟩
theorem u8_wrap (n : Nat) : IntKind.u8.wrap (n : Int) = ((n % 256 : Nat) : Int) := by simp [IntKind.wrap, IntKind.bits, IntKind.signed]
theorem big_cell (n : Nat) : Value.int IntKind.u8 (bitsOf BinOp.or IntKind.u8 (IntKind.u8.wrap (n : Int)) 128) = bcell (UInt8.ofNat (n % 128 + 128)) := by
  have e : (UInt8.ofNat (n % 128 + 128)).toNat = n % 128 + 128 := by
    rw [UInt8.toNat_ofNat']
    exact Nat.mod_eq_of_lt (by have := Nat.mod_lt n (show 0 < 128 by decide); omega)
  have e2 : n % 256 % 128 = n % 128 := by omega
  unfold bcell
  rw [u8_wrap, or_byte _ (Nat.mod_lt _ (by decide)), e, e2]
theorem small_cell {n : Nat} (h : n < 256) : Value.int IntKind.u8 (IntKind.u8.wrap (n : Int)) = bcell (UInt8.ofNat n) := by
  have e : (UInt8.ofNat n).toNat = n := by
    rw [UInt8.toNat_ofNat']
    exact Nat.mod_eq_of_lt h
  unfold bcell
  rw [u8_wrap, e, Nat.mod_eq_of_lt h]
theorem fdiv128 (n : Nat) : (n : Int).fdiv (Int.ofNat 128) = ((n / 128 : Nat) : Int) := by
  rw [Int.fdiv_eq_ediv_of_nonneg _ (by decide)]
  rfl

section
variable {h : Mem}
theorem one_byte {b : Nat} {u : UInt8} {e : TypeId} {fz : Nat × Nat} (hb : h[b]? = some (.cells #[bcell u] e fz)) : BytesSl h ⟨some ⟨b, 0, none⟩, 1, 1⟩ [u] :=
  ⟨rfl, fun i v hv => by
    match i, hv with
    | 0, hv => cases hv; rw [add_zero]; exact row_cell hb rfl
    | i + 1, hv => simp at hv, fun hn => by cases hn⟩

/-- a byte is put behind -/
theorem push_byte {B : Nat} {s : Sl} {xs : List UInt8} {x : Value} {u : UInt8} (hx : x = bcell u) (hB : B ≤ h.size) (o : OwnB h B ty_uint8 s xs) (hs : xs.length + 1 ≤ 140737488355328) {K : Sl → Mem → Prop}
    (hk : ∀ s' h', OwnB h' B ty_uint8 s' (xs ++ [u]) → Ext B h h' → K s' h') :
    New (Obj.cells #[x] ty_uint8) h fun (k7 : Nat) (h8 : Mem) =>
      PrimT PG (Builtin.append_ #[ty_sl_uint8, ty_sl_uint8] ty_sl_uint8 #[Value.slice s.a s.len s.cap, Value.slice (some (Addr.mk k7 0 none)) 1 1]) (Kd.one (Cmp.leaf Leaf.sl)) h8 K := by
  subst hx
  refine New.go fun h1 _ x1 z1 r1 => ?_
  refine append_bytes (v := ⟨some ⟨h.size, 0, none⟩, 1, 1⟩) (Nat.le_trans hB x1.size) (Owns.ext o x1) (one_byte r1) hs fun s' h' o' g => hk s' h' o' ((x1.less hB).trans ?_)
  exact Owns.grownExt (Owns.ext o x1) (Nat.le_trans hB x1.size) g

theorem ct_Var {n : Nat} {Q : Sl → Mem → Prop} (hn : n ≤ 18446744073709551615) (q : ∀ s' h', Ext h.size h h' → OwnB h' h.size ty_uint8 s' (varB n) → Q s' h') :
    CallF PG fn_word_Var [.int .u64 (n : Int)] (.one (.leaf .sl)) h Q := by
  refine call_word_Var ?_
  have hle := varB_le hn
  refine ⟨fun v s h' => ∃ (m : Nat) (d : List UInt8), v = (m : Int) ∧ d ++ varB m = varB n ∧ Ext h.size h h' ∧ OwnB h' h.size ty_uint8 s d, fun v _ _ => v.toNat, ⟨n, [], rfl, rfl, Ext.refl _ _, Owns.nil _ _ _ _⟩, ?_⟩
  rintro _ v s h1 ⟨m, d, rfl, hd, x, o⟩
  have hdl := congrArg List.length hd
  rw [List.length_append] at hdl
  have hp := varB_pos m
  refine Br.mk (fun e => ?_) fun e => ?_
  · have e : ¬ m < 128 := by simp only [ge_iff_le, decide_eq_true_eq] at e; omega
    refine push_byte (big_cell m) x.size o (by omega) fun s' h' o' x' => ?_
    rw [fdiv128]
    refine ⟨⟨m / 128, _, rfl, ?_, x.trans x', o'⟩, by simp only [Int.toNat_natCast]; omega⟩
    rw [List.append_assoc, List.singleton_append, ← varB_big e]; exact hd
  · have e : m < 128 := by simp only [ge_iff_le, decide_eq_false_iff_not] at e; omega
    refine push_byte (small_cell (by omega)) x.size o (by omega) fun s' h' o' x' => q _ _ (x.trans x') ?_
    rw [← varB_small e, hd] at o'; exact o'
theorem ct_ref_Var {n : Nat} {Q : Sl → Mem → Prop} (hn : n ≤ 18446744073709551615) (q : ∀ s' h', Ext h.size h h' → OwnB h' h.size ty_uint8 s' (varB n) → Q s' h') :
    CallF PG fn_dunnageref01_Var [.int .u64 (n : Int)] (.one (.leaf .sl)) h Q := by
  refine call_dunnageref01_Var ?_
  have hle := varB_le hn
  refine ⟨fun v s h' => ∃ (m : Nat) (d : List UInt8), v = (m : Int) ∧ d ++ varB m = varB n ∧ Ext h.size h h' ∧ OwnB h' h.size ty_uint8 s d, fun v _ _ => v.toNat, ⟨n, [], rfl, rfl, Ext.refl _ _, Owns.nil _ _ _ _⟩, ?_⟩
  rintro _ v s h1 ⟨m, d, rfl, hd, x, o⟩
  have hdl := congrArg List.length hd
  rw [List.length_append] at hdl
  have hp := varB_pos m
  refine Br.mk (fun e => ?_) fun e => ?_
  · have e : ¬ m < 128 := by simp only [ge_iff_le, decide_eq_true_eq] at e; omega
    refine push_byte (big_cell m) x.size o (by omega) fun s' h' o' x' => ?_
    rw [fdiv128]
    refine ⟨⟨m / 128, _, rfl, ?_, x.trans x', o'⟩, by simp only [Int.toNat_natCast]; omega⟩
    rw [List.append_assoc, List.singleton_append, ← varB_big e]; exact hd
  · have e : m < 128 := by simp only [ge_iff_le, decide_eq_false_iff_not] at e; omega
    refine push_byte (small_cell (by omega)) x.size o (by omega) fun s' h' o' x' => q _ _ (x.trans x') ?_
    rw [← varB_small e, hd] at o'; exact o'
end
end Go.Dn.W

set_option linter.unusedVariables false
namespace Go.Dn.W
open Go Go.Dn Go.Proofs

theorem Br.and {c r : Bool} {A : Prop} {Q : Bool → Prop} (q : Q (c && r)) (hA : Q r → A) : Br c A (Q false) := by
  cases c
  · exact q
  · exact hA q
theorem u64_eq {n : Nat} (h : n ≤ 18446744073709551615) : IntKind.u64.wrap (n : Int) = (n : Int) := by simp [IntKind.wrap, IntKind.bits, IntKind.signed]; omega
theorem und_i : PG.underlying ty_int = some (.int .i64) := by kernel_rfl
theorem agg_i : isAggB PG ty_int = false := by kernel_rfl
theorem und_u : PG.underlying ty_uint64 = some (.int .u64) := by kernel_rfl
theorem agg_u : isAggB PG ty_uint64 = false := by kernel_rfl

section
variable {h : Mem}
theorem Ld.i {a : Addr} {n : Int} {K : Int → Prop} (hc : cellAt h a = some (.int .i64 n)) (hk : K n) : Ld PG ty_int a (.one (.leaf (.int .i64))) h K := Ld.cell (l := .int .i64) und_i agg_i hc hk
theorem Ld.u {a : Addr} {n : Int} {K : Int → Prop} (hc : cellAt h a = some (.int .u64 n)) (hk : K n) : Ld PG ty_uint64 a (.one (.leaf (.int .u64))) h K := Ld.cell (l := .int .u64) und_u agg_u hc hk

/-! ### moves -/
def pMove (ms mf mt mn : Int) : Bool := (decide (ms ≥ 1) && decide (mf ≥ 0)) && (decide (mf ≤ 65536) && (decide (mt ≥ 0) && (decide (mt ≤ 65536) && ((mf != mt) && (decide (mn ≥ 1) && decide (mn ≤ 9))))))
theorem ct_moves {ms mf mt mn : Int} {Q : Bool → Mem → Prop} (q : ∀ h', Ext h.size h h' → Q (pMove ms mf mt mn) h') : CallF PG fn_batch_moves [.agg #[.int .u64 ms, .int .i64 mf, .int .i64 mt, .int .i64 mn]] (.one (.leaf .bool)) h Q := by
  refine call_batch_moves (New.go fun h1 _ x1 z1 r1 => ?_)
  have q := q h1 x1
  unfold pMove at q
  have c0 : cellAt h1 ⟨h.size, 0, none⟩ = some (.int .u64 ms) := row_cell r1 rfl
  have c1 : cellAt h1 ((⟨h.size, 0, none⟩ : Addr).add 1) = some (.int .i64 mf) := by rw [add_off]; exact row_cell r1 rfl
  have c2 : cellAt h1 ((⟨h.size, 0, none⟩ : Addr).add 2) = some (.int .i64 mt) := by rw [add_off]; exact row_cell r1 rfl
  have c3 : cellAt h1 ((⟨h.size, 0, none⟩ : Addr).add 3) = some (.int .i64 mn) := by rw [add_off]; exact row_cell r1 rfl
  refine Ld.u c0 ⟨fun b h' => b = (decide (ms ≥ 1) && decide (mf ≥ 0)) ∧ h' = h1, ?_, ?_⟩
  · rintro _ b h7 ⟨rfl, rfl⟩
    refine Br.and (Q := fun b => Q b h7) q fun q => Ld.i c1 (Br.and (Q := fun b => Q b h7) q fun q => Ld.i c2 (Br.and (Q := fun b => Q b h7) q fun q => Ld.i c2 (Br.and (Q := fun b => Q b h7) q fun q => Ld.i c1 (Ld.i c2 (Br.and (Q := fun b => Q b h7) q fun q => Ld.i c3 (Br.and (Q := fun b => Q b h7) q fun q => Ld.i c3 q))))))
  · refine Br.mk (fun e => Ld.i c1 ⟨by rw [e]; rfl, rfl⟩) fun e => ⟨by rw [e]; rfl, rfl⟩
theorem ct_MayMove {ms mf mt mn : Int} {Q : Bool → Mem → Prop} (q : ∀ h', Ext h.size h h' → Q (pMove ms mf mt mn) h') : CallF PG fn_dunnageref10_MayMove [.agg #[.int .u64 ms, .int .i64 mf, .int .i64 mt, .int .i64 mn]] (.one (.leaf .bool)) h Q := by
  refine call_dunnageref10_MayMove (New.go fun h1 _ x1 z1 r1 => ?_)
  have q := q h1 x1
  unfold pMove at q
  have c0 : cellAt h1 ⟨h.size, 0, none⟩ = some (.int .u64 ms) := row_cell r1 rfl
  have c1 : cellAt h1 ((⟨h.size, 0, none⟩ : Addr).add 1) = some (.int .i64 mf) := by rw [add_off]; exact row_cell r1 rfl
  have c2 : cellAt h1 ((⟨h.size, 0, none⟩ : Addr).add 2) = some (.int .i64 mt) := by rw [add_off]; exact row_cell r1 rfl
  have c3 : cellAt h1 ((⟨h.size, 0, none⟩ : Addr).add 3) = some (.int .i64 mn) := by rw [add_off]; exact row_cell r1 rfl
  refine Ld.u c0 ⟨fun b h' => b = (decide (ms ≥ 1) && decide (mf ≥ 0)) ∧ h' = h1, ?_, ?_⟩
  · rintro _ b h7 ⟨rfl, rfl⟩
    refine Br.and (Q := fun b => Q b h7) q fun q => Ld.i c1 (Br.and (Q := fun b => Q b h7) q fun q => Ld.i c2 (Br.and (Q := fun b => Q b h7) q fun q => Ld.i c2 (Br.and (Q := fun b => Q b h7) q fun q => Ld.i c1 (Ld.i c2 (Br.and (Q := fun b => Q b h7) q fun q => Ld.i c3 (Br.and (Q := fun b => Q b h7) q fun q => Ld.i c3 q))))))
  · refine Br.mk (fun e => Ld.i c1 ⟨by rw [e]; rfl, rfl⟩) fun e => ⟨by rw [e]; rfl, rfl⟩

/-! ### the pen -/
/-- the pen in block kp bears the slice s -/
def PenAt (h : Mem) (kp : Nat) (s : Sl) (c1 c2 : Value) : Prop := h[kp]? = some (.cells #[sval s, c1, c2] ty_batch_pen (0, 0))
/-- rows of other things than bytes stand, but for the pen -/
structure PenKeep (kp : Nat) (h h' : Mem) : Prop where
  size : h.size ≤ h'.size
  block : ∀ (j : Nat) (c : Array Value) (e : TypeId) (fz : Nat × Nat), e ≠ ty_uint8 → j ≠ kp → h[j]? = some (.cells c e fz) → h'[j]? = some (.cells c e fz)
theorem PenKeep.refl (kp : Nat) (h : Mem) : PenKeep kp h h := ⟨Nat.le_refl _, fun _ _ _ _ _ _ hj => hj⟩
theorem PenKeep.trans {kp : Nat} {h h' h'' : Mem} (a : PenKeep kp h h') (b : PenKeep kp h' h'') : PenKeep kp h h'' := ⟨Nat.le_trans a.size b.size, fun j c e fz he hj hc => b.block j c e fz he hj (a.block j c e fz he hj hc)⟩
theorem PenKeep.ext {kp : Nat} {h h' : Mem} (x : Ext h.size h h') : PenKeep kp h h' := ⟨x.size, fun j c e fz he hj hc => (x.block j (Array.getElem?_eq_some_iff.1 hc).1).trans hc⟩
theorem PenKeep.upd {kp : Nat} {h h' : Mem} (u : Upd kp h h') : PenKeep kp h h' := ⟨Nat.le_of_eq u.size.symm, fun j c e fz he hj hc => (u.block j hj).trans hc⟩
theorem Grown.other {B : Nat} {s : Sl} {xs : List UInt8} {h h' : Mem} (g : Grown s h h') (o : OwnB h B ty_uint8 s xs) {j : Nat} {c : Array Value} {e : TypeId} {fz : Nat × Nat} (he : e ≠ ty_uint8) (hc : h[j]? = some (.cells c e fz)) : h'[j]? = some (.cells c e fz) := by
  refine (g.block j (Array.getElem?_eq_some_iff.1 hc).1 fun a ha e' => ?_).trans hc
  obtain ⟨_, _, c', hc'⟩ := Owns.blk o ha
  rw [← e', hc] at hc'
  cases hc'
  exact he rfl
theorem Grown.penKeep {kp B : Nat} {s : Sl} {xs : List UInt8} {h h' : Mem} (g : Grown s h h') (o : OwnB h B ty_uint8 s xs) : PenKeep kp h h' := ⟨g.size, fun j c e fz he hj hc => Grown.other g o he hc⟩
theorem PenAt.ext {kp : Nat} {s : Sl} {c1 c2 : Value} {h h' : Mem} (p : PenAt h kp s c1 c2) (x : Ext h.size h h') : PenAt h' kp s c1 c2 := (x.block _ (Array.getElem?_eq_some_iff.1 p).1).trans p
theorem pen_ne : ty_batch_pen ≠ ty_uint8 := by decide

/-- bytes are put behind what the pen bears -/
theorem pen_append {kp B : Nat} {s v : Sl} {c1 c2 : Value} {xs l : List UInt8} {K : Mem → Prop} (hB : B ≤ kp) (p : PenAt h kp s c1 c2) (o : OwnB h B ty_uint8 s xs) (b : BytesSl h v l) (hs : xs.length + l.length ≤ 140737488355328)
    (hk : ∀ s' h', PenAt h' kp s' c1 c2 → OwnB h' B ty_uint8 s' (xs ++ l) → Ext B h h' → PenKeep kp h h' → K h') :
    PrimT PG (Builtin.append_ #[ty_sl_uint8, ty_sl_uint8] ty_sl_uint8 #[Value.slice s.a s.len s.cap, Value.slice v.a v.len v.cap]) (Kd.one (Cmp.leaf Leaf.sl)) h
      fun (s13 : Sl) (h14 : Mem) => St PG ty_sl_uint8 ⟨kp, 0, none⟩ (Value.slice s13.a s13.len s13.cap) h14 K := by
  have hkp := (Array.getElem?_eq_some_iff.1 p).1
  refine append_bytes (by omega) o b hs fun s' h' o' g => ?_
  have p' : h'[kp]? = some (.cells #[sval s, c1, c2] ty_batch_pen (0, 0)) := Grown.other g o pen_ne p
  refine St.row und_bytes (vs := [sval s']) rfl sz_bytes (by intro u hu; simp only [List.mem_cons, List.not_mem_nil, or_false] at hu; subst hu; rfl) p' (show 1 ≤ 3 by decide) fun h2 u r => ?_
  refine hk s' h2 r (Owns.kept o' fun a ha => u.block _ fun e => ?_) ((Owns.grownExt o (by omega) g).trans (u.ext hB)) ((Grown.penKeep g o).trans (.upd u))
  obtain ⟨_, _, c', hc'⟩ := Owns.blk o' ha
  rw [e, p'] at hc'
  cases hc'

theorem ct_pen_nums {kp B k n : Nat} {s : Sl} {e : TypeId} {c1 c2 : Value} {xs : List UInt8} {ns : List Nat} {Q : Mem → Prop} (hB : B ≤ kp) (p : PenAt h kp s c1 c2) (o : OwnB h B ty_uint8 s xs) (he : e ≠ ty_uint8) (hkk : k ≠ kp)
    (hr : h[k]? = some (.cells (ns.map fun n : Nat => Value.int .u64 (n : Int)).toArray e (0, 0))) (hn : n = ns.length) (hm : ∀ m ∈ ns, m ≤ 18446744073709551615) (hs : xs.length + ns.length * 10 ≤ 140737488355328)
    (q : ∀ s' h', PenAt h' kp s' c1 c2 → OwnB h' B ty_uint8 s' (xs ++ ns.flatMap varB) → Ext B h h' → PenKeep kp h h' → Q h') :
    CallF PG fn_batch_pen_nums [.pointer (some ⟨kp, 0, none⟩), .slice (some ⟨k, 0, none⟩) n n] (.tup []) h Q := by
  refine call_batch_pen_nums (l := ⟨some ⟨k, 0, none⟩, n, n⟩) ?_
  have hlen : ∀ i, i ≤ ns.length → ((ns.take i).flatMap varB).length ≤ i * 10 := by
    intro i hi
    induction i with
    | zero => simp
    | succ i ih =>
      obtain ⟨m, hm'⟩ : ∃ m, ns[i]? = some m := ⟨_, List.getElem?_eq_getElem (by omega)⟩
      rw [List.take_add_one, hm', List.flatMap_append]
      have h1 := ih (by omega)
      have h2 := varB_le (hm m (List.mem_of_getElem? hm'))
      simp only [List.length_append, Option.toList_some, List.flatMap_cons, List.flatMap_nil, List.append_nil]
      omega
  refine ⟨fun v h' => ∃ (i : Nat) (s' : Sl), v = (i : Int) ∧ i ≤ ns.length ∧ PenAt h' kp s' c1 c2 ∧ OwnB h' B ty_uint8 s' (xs ++ (ns.take i).flatMap varB) ∧ Ext B h h' ∧ PenKeep kp h h', fun v _ => ns.length - v.toNat, ⟨0, s, rfl, Nat.zero_le _, p, by simpa using o, Ext.refl _ _, PenKeep.refl _ _⟩, ?_⟩
  rintro _ v h5 ⟨i, s', rfl, hi, p5, o5, x5, k5⟩
  refine Br.mk (fun e1 => ?_) fun e1 => ?_
  · simp only [decide_eq_true_eq] at e1
    have e1 : i < ns.length := by have e1 : (i : Int) < (n : Int) := e1; omega
    obtain ⟨m, hm'⟩ : ∃ m, ns[i]? = some m := ⟨_, List.getElem?_eq_getElem e1⟩
    have hmm := hm m (List.mem_of_getElem? hm')
    have r5 := k5.block k _ e _ he hkk hr
    refine Idx.mk rfl (show i < n by omega) ?_
    rw [nat_mul]
    refine Ld.u (n := (m : Int)) (by rw [add_off]; exact row_cell r5 (by simp [hm'])) ?_
    show Ld _ _ _ _ _ _
    refine Ld.bytes (row_cell p5 rfl) (ct_Var hmm fun s10 h11 x11 o10 => ?_)
    have p11 := p5.ext x11
    refine ⟨Ld.bytes (row_cell p11 rfl) rfl, ?_⟩
    have hkp := (Array.getElem?_eq_some_iff.1 p).1
    have hB5 : B ≤ h5.size := by have := x5.size; omega
    have h1 := hlen i hi
    have h2 := varB_le hmm
    refine pen_append hB p11 (Owns.ext o5 x11) o10.bytes (by rw [List.length_append]; omega) fun s13 h16 p16 o16 x16 k16 => ?_
    rw [wrap_succ (by omega)]
    refine ⟨⟨i + 1, s13, rfl, by omega, p16, ?_, x5.trans ((x11.less hB5).trans x16), k5.trans ((PenKeep.ext x11).trans k16)⟩, by simp only [Int.toNat_natCast]; omega⟩
    rw [List.take_add_one, hm', List.flatMap_append, ← List.append_assoc]
    simpa using o16
  · simp only [decide_eq_false_iff_not] at e1
    have : i = ns.length := by have e1 : ¬ (i : Int) < (n : Int) := e1; omega
    rw [this, List.take_length] at o5
    exact q _ _ p5 o5 x5 k5
end
end Go.Dn.W

set_option linter.unusedVariables false
namespace Go.Dn.W
open Go Go.Dn Go.Proofs

def rcells (k q : Int) (s : Sl) (ms mf mt mn : Int) : List Value := [.int .i64 k, .int .u64 q, sval s, .int .u64 ms, .int .i64 mf, .int .i64 mt, .int .i64 mn]
theorem und_rec : ∃ d, PG.underlying ty_api_Record = some d := Option.isSome_iff_exists.1 (by kernel_rfl)
theorem agg_rec : isAggB PG ty_api_Record = true := by kernel_rfl
theorem sz_rec : szOf PG ty_api_Record = 7 := by kernel_rfl
theorem und_move : ∃ d, PG.underlying ty_api_Move = some d := Option.isSome_iff_exists.1 (by kernel_rfl)
theorem agg_move : isAggB PG ty_api_Move = true := by kernel_rfl
theorem sz_move : szOf PG ty_api_Move = 4 := by kernel_rfl
theorem und_wr : ∃ d, PG.underlying ty_3_func_ptr_batch_pen_api_Record = some d := Option.isSome_iff_exists.1 (by kernel_rfl)
theorem agg_wr : isAggB PG ty_3_func_ptr_batch_pen_api_Record = true := by kernel_rfl
theorem sz_wr : szOf PG ty_3_func_ptr_batch_pen_api_Record = 3 := by kernel_rfl
theorem und_changes : PG.underlying ty_sl_api_Change = some (.slice ty_api_Change) := by kernel_rfl
theorem agg_changes : isAggB PG ty_sl_api_Change = false := by kernel_rfl

section
variable {h : Mem}
theorem Ld.chs {a : Addr} {v : Sl} {K : Sl → Prop} (hc : cellAt h a = some (sval v)) (hk : K v) : Ld PG ty_sl_api_Change a (.one (.leaf .sl)) h K := Ld.cell (l := .sl) und_changes agg_changes hc hk
theorem Ld.rec {a : Addr} {k q : Int} {s : Sl} {ms mf mt mn : Int} {K : Int → Int → Sl → Int → Int → Int → Int → Prop} (hc : Cells h a (rcells k q s ms mf mt mn)) (hk : K k q s ms mf mt mn) :
    Ld PG ty_api_Record a (.one (.agg [.int .i64, .int .u64, .sl, .int .u64, .int .i64, .int .i64, .int .i64])) h K := by
  obtain ⟨t, hd⟩ := und_rec
  exact Ld.agg hd agg_rec sz_rec rfl hc ⟨k, .int _ k, q, .int _ q, s, .sl s.a s.len s.cap, ms, .int _ ms, mf, .int _ mf, mt, .int _ mt, mn, .int _ mn, hk⟩
theorem Ld.move {a : Addr} {ms mf mt mn : Int} {K : Int → Int → Int → Int → Prop} (hc : Cells h a [.int .u64 ms, .int .i64 mf, .int .i64 mt, .int .i64 mn]) (hk : K ms mf mt mn) :
    Ld PG ty_api_Move a (.one (.agg [.int .u64, .int .i64, .int .i64, .int .i64])) h K := by
  obtain ⟨t, hd⟩ := und_move
  exact Ld.agg hd agg_move sz_move rfl hc ⟨ms, .int _ ms, mf, .int _ mf, mt, .int _ mt, mn, .int _ mn, hk⟩

def wrs : List Value := [.nilFunc, .func (.func fn_batch_pen_batch) #[] #[], .func (.func fn_batch_pen_move) #[] #[]]
theorem ct_writers {Q : Value → Value → Value → Mem → Prop} (q : ∀ h', Ext h.size h h' → Q .nilFunc (.func (.func fn_batch_pen_batch) #[] #[]) (.func (.func fn_batch_pen_move) #[] #[]) h') : CallF PG fn_batch_writers [] (.one (.agg [.raw, .raw, .raw])) h Q := by
  obtain ⟨t, hd⟩ := und_wr
  refine call_batch_writers (New.go fun h1 _ x1 z1 r1 => ?_)
  refine St.row hd (vs := wrs) rfl sz_wr (by intro u hu; simp only [wrs, List.mem_cons, List.not_mem_nil, or_false] at hu; rcases hu with rfl | rfl | rfl <;> rfl) r1 (show 3 ≤ 3 by decide) fun h2 u2 r2 => ?_
  have r2 : h2[h.size]? = some (.cells wrs.toArray ty_3_func_ptr_batch_pen_api_Record (0, 0)) := r2
  exact Ld.agg hd agg_wr sz_wr rfl (Cells.whole (cs := wrs) r2) ⟨_, .raw _, _, .raw _, _, .raw _, q _ (x1.trans (u2.ext (Nat.le_refl _)))⟩
theorem pick2 {a b c : Value} {K : Value → Prop} (hk : K c) : PureT PG (Instr.index ty_3_func_ptr_batch_pen_api_Record (.agg #[a, b, c]) (.int .i64 2)) (.one (.leaf .raw)) K :=
  ⟨c, fun w => by kernel_rfl, [c], rfl, c, .raw _, hk⟩

theorem ct_May_move {s : Sl} {ms mf mt mn : Int} {Q : Bool → Mem → Prop} (hs : s.len = 0) (q : ∀ h', Ext h.size h h' → Q (pMove ms mf mt mn) h') :
    CallF PG fn_batch_May [.agg #[.int .i64 2, .int .u64 0, sval s, .int .u64 ms, .int .i64 mf, .int .i64 mt, .int .i64 mn]] (.one (.leaf .bool)) h Q := by
  refine call_batch_May (r_0 := 2) (r_1 := 0) (New.go fun h1 _ x1 z1 r1 => ?_)
  refine Ld.i (row_cell r1 rfl) (Br.f rfl (Br.t rfl ?_))
  refine Ld.u (n := 0) (by rw [add_off]; exact row_cell r1 rfl) (Br.t rfl ?_)
  refine Ld.chs (v := s) (by rw [add_off]; exact row_cell r1 rfl) (Br.t (by rw [hs]; rfl) ?_)
  refine Ld.move (ms := ms) (mf := mf) (mt := mt) (mn := mn) ?_ (ct_moves fun h2 x2 => q _ (x1.after x2))
  rw [add_off]
  refine Cells.row r1 fun i v hv => ?_
  match i, hv with
  | 0, hv => exact hv
  | 1, hv => exact hv
  | 2, hv => exact hv
  | 3, hv => exact hv
  | i + 4, hv => simp at hv

theorem ct_pen_move {kp B : Nat} {s v : Sl} {c1 c2 : Value} {xs : List UInt8} {k q : Int} {ms mf mt mn : Nat} {Q : Mem → Prop} (hB : B ≤ kp) (p : PenAt h kp s c1 c2) (o : OwnB h B ty_uint8 s xs) (h1 : ms ≤ 18446744073709551615) (h2 : mf ≤ 65536) (h3 : mt ≤ 65536) (h4 : mn ≤ 65536) (hs : xs.length ≤ 1000)
    (qq : ∀ s' h', PenAt h' kp s' c1 c2 → OwnB h' B ty_uint8 s' (xs ++ [ms, mf, mt, mn].flatMap varB) → Ext B h h' → PenKeep kp h h' → Q h') :
    CallF PG fn_batch_pen_move [.pointer (some ⟨kp, 0, none⟩), .agg #[.int .i64 k, .int .u64 q, sval v, .int .u64 ms, .int .i64 mf, .int .i64 mt, .int .i64 mn]] (.tup []) h Q := by
  have hkp := (Array.getElem?_eq_some_iff.1 p).1
  refine call_batch_pen_move (New.go fun g1 _ x1 z1 r1 => ?_)
  refine Ld.u (n := (ms : Int)) (by rw [add_off]; exact row_cell r1 rfl) (Ld.i (n := (mf : Int)) (by rw [add_off, add_off]; exact row_cell r1 rfl) (Ld.i (n := (mt : Int)) (by rw [add_off, add_off]; exact row_cell r1 rfl) (Ld.i (n := (mn : Int)) (by rw [add_off, add_off]; exact row_cell r1 rfl) ?_)))
  rw [u64_eq (by omega), u64_eq (by omega), u64_eq (by omega)]
  refine New.go fun g2 _ x2 z2 r2 => ?_
  have x : Ext h.size h g2 := x1.after x2
  refine ct_pen_nums (ns := [ms, mf, mt, mn]) hB (p.ext x) (Owns.ext o x) (by decide) (by omega) r2 rfl ?_ (by simp; omega) fun s' h' p' o' x' k' => qq s' h' p' o' ((x.less (by omega)).trans x') ((PenKeep.ext x).trans k')
  intro m hm
  simp only [List.mem_cons, List.not_mem_nil, or_false] at hm
  rcases hm with rfl | rfl | rfl | rfl <;> omega

theorem ct_Write_move {ms mf mt mn : Nat} {Q : Sl → Int → Mem → Prop} (hm : pMove ms mf mt mn = true) (h1 : ms ≤ 18446744073709551615) (q : ∀ s' h', Ext h.size h h' → OwnB h' h.size ty_uint8 s' ([2] ++ [ms, mf, mt, mn].flatMap varB) → Q s' 0 h') :
    CallF PG fn_batch_Write [.agg #[.int .i64 2, .int .u64 0, .slice none 0 0, .int .u64 ms, .int .i64 mf, .int .i64 mt, .int .i64 mn]] (.tup [.leaf .sl, .leaf (.int .i64)]) h Q := by
  have hb : mf ≤ 65536 ∧ mt ≤ 65536 ∧ mn ≤ 65536 := by
    simp only [pMove, Bool.and_eq_true, decide_eq_true_eq] at hm
    omega
  refine call_batch_Write (r_0 := 2) (r_1 := 0) (r_2 := ⟨none, 0, 0⟩) (New.go fun g1 _ x1 z1 r1 => ?_)
  refine Ld.rec (s := ⟨none, 0, 0⟩) (Cells.whole (cs := rcells 2 0 ⟨none, 0, 0⟩ ms mf mt mn) r1) (ct_May_move rfl fun g2 x2 => Br.f (by rw [hm]; rfl) ?_)
  have r2 := (x2.block h.size (by omega)).trans r1
  refine Ld.i (n := 2) (row_cell r2 rfl) (New.go fun g3 _ x3 z3 r3 => New.go fun g4 _ x4 z4 r4 => ?_)
  have z2 := x2.size
  have x24 := x3.after x4
  have r4' := (x24.block h.size (by omega)).trans r2
  refine Ld.i (n := 2) (row_cell r4' rfl) (Ld.rec (s := ⟨none, 0, 0⟩) (Cells.whole (cs := rcells 2 0 ⟨none, 0, 0⟩ ms mf mt mn) r4') (ct_writers fun g5 x5 => ?_))
  have r5 := (x5.block h.size (by omega)).trans r4'
  refine ⟨Ld.rec (s := ⟨none, 0, 0⟩) (Cells.whole (cs := rcells 2 0 ⟨none, 0, 0⟩ ms mf mt mn) r5) rfl, Ld.i (n := 2) (row_cell r5 rfl) rfl, pick2 (callV_fn ?_)⟩
  have r35 : g5[g2.size]? = some (.cells #[bcell 2] ty_uint8 (0, 0)) := ((x4.after x5).block g2.size (by omega)).trans r3
  have z5 := x5.size
  have p5 : PenAt g5 g3.size ⟨some ⟨g2.size, 0, none⟩, 1, 1⟩ (.int .i64 0) (.int .i64 0) := (x5.block g3.size (by omega)).trans r4
  have o5 : OwnB g5 h.size ty_uint8 ⟨some ⟨g2.size, 0, none⟩, 1, 1⟩ [2] := ⟨rfl, .inr ⟨g2.size, 1, _, rfl, by omega, r35, Nat.le_refl _, by decide, rfl, rfl⟩⟩
  refine ct_pen_move (by omega) p5 o5 h1 hb.1 hb.2.1 hb.2.2 (by simp) fun s' g6 p6 o6 x6 k6 => ?_
  refine Ld.bytes (row_cell p6 rfl) (q s' g6 ?_ o6)
  exact x1.trans ((x2.after (x24.after x5)).less (by omega)) |>.trans x6

theorem OpsAt.isNil (h : Mem) : OpsAt h ⟨none, 0, 0⟩ [] := ⟨rfl, fun i p hp => by simp at hp, fun _ => rfl⟩
theorem ct_awake10 {Q : Bool → Mem → Prop} (q : ∀ h', Ext h.size h h' → Q true h') : CallF PG fn_dunnagelaw10_awake [] (.one (.leaf .bool)) h Q := by
  refine call_dunnagelaw10_awake ?_
  refine ct_Write_move (ms := 5) (mf := 9) (mt := 2) (mn := 3) (by decide) (by decide) fun s' h1 x1 o1 => Br.t rfl (Br.t ?_ ?_)
  · rw [o1.len]
    simp only [List.flatMap_cons, List.flatMap_nil, varB_small (show 5 < 128 by decide), varB_small (show 9 < 128 by decide), varB_small (show 2 < 128 by decide), varB_small (show 3 < 128 by decide)]
    rfl
  · exact ct_batch_Check (s := ⟨none, 0, 0⟩) (OpsAt.isNil h1) (by simp) (fun i o ho => by simp at ho) fun h2 x2 => q h2 (x1.after x2)
end
end Go.Dn.W
