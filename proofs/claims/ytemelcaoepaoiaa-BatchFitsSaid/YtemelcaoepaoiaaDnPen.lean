/- Records of moves as bytes; the law's waking. -/
import Derived.Test.YtemelcaoepaoiaaDnVar
import Derived.Test.YtemelcaoepaoiaaDnOps
set_option linter.unusedVariables false
namespace Go.Dn.W
open Go Go.Dn Go.Proofs

theorem Br.and {c r : Bool} {A : Prop} {Q : Bool → Prop} (q : Q (c && r)) (hA : Q r → A) : Br c A (Q false) := by
  cases c
  · exact q
  · exact hA q
theorem u64_eq {n : Nat} (h : n ≤ 18446744073709551615) : IntKind.u64.wrap (n : Int) = (n : Int) := by simp [IntKind.wrap, IntKind.bits, IntKind.signed]; omega
theorem und_i : PG.underlying ty_int = some (.int .i64) := by kernel_rfl
theorem agg_i : isAggB PG ty_int = false := by kernel_rfl
theorem und_u : PG.underlying ty_uint64 = some (.int .u64) := by kernel_rfl
theorem agg_u : isAggB PG ty_uint64 = false := by kernel_rfl

section
variable {h : Mem}
theorem Ld.i {a : Addr} {n : Int} {K : Int → Prop} (hc : cellAt h a = some (.int .i64 n)) (hk : K n) : Ld PG ty_int a (.one (.leaf (.int .i64))) h K := Ld.cell (l := .int .i64) und_i agg_i hc hk
theorem Ld.u {a : Addr} {n : Int} {K : Int → Prop} (hc : cellAt h a = some (.int .u64 n)) (hk : K n) : Ld PG ty_uint64 a (.one (.leaf (.int .u64))) h K := Ld.cell (l := .int .u64) und_u agg_u hc hk

/-! ### moves -/
def pMove (ms mf mt mn : Int) : Bool := (decide (ms ≥ 1) && decide (mf ≥ 0)) && (decide (mf ≤ 65536) && (decide (mt ≥ 0) && (decide (mt ≤ 65536) && ((mf != mt) && (decide (mn ≥ 1) && decide (mn ≤ 9))))))
theorem ct_moves {ms mf mt mn : Int} {Q : Bool → Mem → Prop} (q : ∀ h', Ext h.size h h' → Q (pMove ms mf mt mn) h') : CallF PG fn_batch_moves [.agg #[.int .u64 ms, .int .i64 mf, .int .i64 mt, .int .i64 mn]] (.one (.leaf .bool)) h Q := by
  refine call_batch_moves (New.go fun h1 _ x1 z1 r1 => ?_)
  have q := q h1 x1
  unfold pMove at q
  have c0 : cellAt h1 ⟨h.size, 0, none⟩ = some (.int .u64 ms) := row_cell r1 rfl
  have c1 : cellAt h1 ((⟨h.size, 0, none⟩ : Addr).add 1) = some (.int .i64 mf) := by rw [add_off]; exact row_cell r1 rfl
  have c2 : cellAt h1 ((⟨h.size, 0, none⟩ : Addr).add 2) = some (.int .i64 mt) := by rw [add_off]; exact row_cell r1 rfl
  have c3 : cellAt h1 ((⟨h.size, 0, none⟩ : Addr).add 3) = some (.int .i64 mn) := by rw [add_off]; exact row_cell r1 rfl
  refine Ld.u c0 ⟨fun b h' => b = (decide (ms ≥ 1) && decide (mf ≥ 0)) ∧ h' = h1, ?_, ?_⟩
  · rintro _ b h7 ⟨rfl, rfl⟩
    refine Br.and (Q := fun b => Q b h7) q fun q => Ld.i c1 (Br.and (Q := fun b => Q b h7) q fun q => Ld.i c2 (Br.and (Q := fun b => Q b h7) q fun q => Ld.i c2 (Br.and (Q := fun b => Q b h7) q fun q => Ld.i c1 (Ld.i c2 (Br.and (Q := fun b => Q b h7) q fun q => Ld.i c3 (Br.and (Q := fun b => Q b h7) q fun q => Ld.i c3 q))))))
  · refine Br.mk (fun e => Ld.i c1 ⟨by rw [e]; rfl, rfl⟩) fun e => ⟨by rw [e]; rfl, rfl⟩
theorem ct_MayMove {ms mf mt mn : Int} {Q : Bool → Mem → Prop} (q : ∀ h', Ext h.size h h' → Q (pMove ms mf mt mn) h') : CallF PG fn_dunnageref10_MayMove [.agg #[.int .u64 ms, .int .i64 mf, .int .i64 mt, .int .i64 mn]] (.one (.leaf .bool)) h Q := by
  refine call_dunnageref10_MayMove (New.go fun h1 _ x1 z1 r1 => ?_)
  have q := q h1 x1
  unfold pMove at q
  have c0 : cellAt h1 ⟨h.size, 0, none⟩ = some (.int .u64 ms) := row_cell r1 rfl
  have c1 : cellAt h1 ((⟨h.size, 0, none⟩ : Addr).add 1) = some (.int .i64 mf) := by rw [add_off]; exact row_cell r1 rfl
  have c2 : cellAt h1 ((⟨h.size, 0, none⟩ : Addr).add 2) = some (.int .i64 mt) := by rw [add_off]; exact row_cell r1 rfl
  have c3 : cellAt h1 ((⟨h.size, 0, none⟩ : Addr).add 3) = some (.int .i64 mn) := by rw [add_off]; exact row_cell r1 rfl
  refine Ld.u c0 ⟨fun b h' => b = (decide (ms ≥ 1) && decide (mf ≥ 0)) ∧ h' = h1, ?_, ?_⟩
  · rintro _ b h7 ⟨rfl, rfl⟩
    refine Br.and (Q := fun b => Q b h7) q fun q => Ld.i c1 (Br.and (Q := fun b => Q b h7) q fun q => Ld.i c2 (Br.and (Q := fun b => Q b h7) q fun q => Ld.i c2 (Br.and (Q := fun b => Q b h7) q fun q => Ld.i c1 (Ld.i c2 (Br.and (Q := fun b => Q b h7) q fun q => Ld.i c3 (Br.and (Q := fun b => Q b h7) q fun q => Ld.i c3 q))))))
  · refine Br.mk (fun e => Ld.i c1 ⟨by rw [e]; rfl, rfl⟩) fun e => ⟨by rw [e]; rfl, rfl⟩

/-! ### the pen -/
/-- the pen in block kp bears the slice s -/
def PenAt (h : Mem) (kp : Nat) (s : Sl) (c1 c2 : Value) : Prop := h[kp]? = some (.cells #[sval s, c1, c2] ty_batch_pen (0, 0))
/-- rows of other things than bytes stand, but for the pen -/
structure PenKeep (kp : Nat) (h h' : Mem) : Prop where
  size : h.size ≤ h'.size
  block : ∀ (j : Nat) (c : Array Value) (e : TypeId) (fz : Nat × Nat), e ≠ ty_uint8 → j ≠ kp → h[j]? = some (.cells c e fz) → h'[j]? = some (.cells c e fz)
theorem PenKeep.refl (kp : Nat) (h : Mem) : PenKeep kp h h := ⟨Nat.le_refl _, fun _ _ _ _ _ _ hj => hj⟩
theorem PenKeep.trans {kp : Nat} {h h' h'' : Mem} (a : PenKeep kp h h') (b : PenKeep kp h' h'') : PenKeep kp h h'' := ⟨Nat.le_trans a.size b.size, fun j c e fz he hj hc => b.block j c e fz he hj (a.block j c e fz he hj hc)⟩
theorem PenKeep.ext {kp : Nat} {h h' : Mem} (x : Ext h.size h h') : PenKeep kp h h' := ⟨x.size, fun j c e fz he hj hc => (x.block j (Array.getElem?_eq_some_iff.1 hc).1).trans hc⟩
theorem PenKeep.upd {kp : Nat} {h h' : Mem} (u : Upd kp h h') : PenKeep kp h h' := ⟨Nat.le_of_eq u.size.symm, fun j c e fz he hj hc => (u.block j hj).trans hc⟩
theorem Grown.other {B : Nat} {s : Sl} {xs : List UInt8} {h h' : Mem} (g : Grown s h h') (o : OwnB h B ty_uint8 s xs) {j : Nat} {c : Array Value} {e : TypeId} {fz : Nat × Nat} (he : e ≠ ty_uint8) (hc : h[j]? = some (.cells c e fz)) : h'[j]? = some (.cells c e fz) := by
  refine (g.block j (Array.getElem?_eq_some_iff.1 hc).1 fun a ha e' => ?_).trans hc
  obtain ⟨_, _, c', hc'⟩ := Owns.blk o ha
  rw [← e', hc] at hc'
  cases hc'
  exact he rfl
theorem Grown.penKeep {kp B : Nat} {s : Sl} {xs : List UInt8} {h h' : Mem} (g : Grown s h h') (o : OwnB h B ty_uint8 s xs) : PenKeep kp h h' := ⟨g.size, fun j c e fz he hj hc => Grown.other g o he hc⟩
theorem PenAt.ext {kp : Nat} {s : Sl} {c1 c2 : Value} {h h' : Mem} (p : PenAt h kp s c1 c2) (x : Ext h.size h h') : PenAt h' kp s c1 c2 := (x.block _ (Array.getElem?_eq_some_iff.1 p).1).trans p
theorem pen_ne : ty_batch_pen ≠ ty_uint8 := by decide

/-- bytes are put behind what the pen bears -/
theorem pen_append {kp B : Nat} {s v : Sl} {c1 c2 : Value} {xs l : List UInt8} {K : Mem → Prop} (hB : B ≤ kp) (p : PenAt h kp s c1 c2) (o : OwnB h B ty_uint8 s xs) (b : BytesSl h v l) (hs : xs.length + l.length ≤ 140737488355328)
    (hk : ∀ s' h', PenAt h' kp s' c1 c2 → OwnB h' B ty_uint8 s' (xs ++ l) → Ext B h h' → PenKeep kp h h' → K h') :
    PrimT PG (Builtin.append_ #[ty_sl_uint8, ty_sl_uint8] ty_sl_uint8 #[Value.slice s.a s.len s.cap, Value.slice v.a v.len v.cap]) (Kd.one (Cmp.leaf Leaf.sl)) h
      fun (s13 : Sl) (h14 : Mem) => St PG ty_sl_uint8 ⟨kp, 0, none⟩ (Value.slice s13.a s13.len s13.cap) h14 K := by
  have hkp := (Array.getElem?_eq_some_iff.1 p).1
  refine append_bytes (by omega) o b hs fun s' h' o' g => ?_
  have p' : h'[kp]? = some (.cells #[sval s, c1, c2] ty_batch_pen (0, 0)) := Grown.other g o pen_ne p
  refine St.row und_bytes (vs := [sval s']) rfl sz_bytes (by intro u hu; simp only [List.mem_cons, List.not_mem_nil, or_false] at hu; subst hu; rfl) p' (show 1 ≤ 3 by decide) fun h2 u r => ?_
  refine hk s' h2 r (Owns.kept o' fun a ha => u.block _ fun e => ?_) ((Owns.grownExt o (by omega) g).trans (u.ext hB)) ((Grown.penKeep g o).trans (.upd u))
  obtain ⟨_, _, c', hc'⟩ := Owns.blk o' ha
  rw [e, p'] at hc'
  cases hc'

theorem ct_pen_nums {kp B k n : Nat} {s : Sl} {e : TypeId} {c1 c2 : Value} {xs : List UInt8} {ns : List Nat} {Q : Mem → Prop} (hB : B ≤ kp) (p : PenAt h kp s c1 c2) (o : OwnB h B ty_uint8 s xs) (he : e ≠ ty_uint8) (hkk : k ≠ kp)
    (hr : h[k]? = some (.cells (ns.map fun n : Nat => Value.int .u64 (n : Int)).toArray e (0, 0))) (hn : n = ns.length) (hm : ∀ m ∈ ns, m ≤ 18446744073709551615) (hs : xs.length + ns.length * 10 ≤ 140737488355328)
    (q : ∀ s' h', PenAt h' kp s' c1 c2 → OwnB h' B ty_uint8 s' (xs ++ ns.flatMap varB) → Ext B h h' → PenKeep kp h h' → Q h') :
    CallF PG fn_batch_pen_nums [.pointer (some ⟨kp, 0, none⟩), .slice (some ⟨k, 0, none⟩) n n] (.tup []) h Q := by
  refine call_batch_pen_nums (l := ⟨some ⟨k, 0, none⟩, n, n⟩) ?_
  have hlen : ∀ i, i ≤ ns.length → ((ns.take i).flatMap varB).length ≤ i * 10 := by
    intro i hi
    induction i with
    | zero => simp
    | succ i ih =>
      obtain ⟨m, hm'⟩ : ∃ m, ns[i]? = some m := ⟨_, List.getElem?_eq_getElem (by omega)⟩
      rw [List.take_add_one, hm', List.flatMap_append]
      have h1 := ih (by omega)
      have h2 := varB_le (hm m (List.mem_of_getElem? hm'))
      simp only [List.length_append, Option.toList_some, List.flatMap_cons, List.flatMap_nil, List.append_nil]
      omega
  refine ⟨fun v h' => ∃ (i : Nat) (s' : Sl), v = (i : Int) ∧ i ≤ ns.length ∧ PenAt h' kp s' c1 c2 ∧ OwnB h' B ty_uint8 s' (xs ++ (ns.take i).flatMap varB) ∧ Ext B h h' ∧ PenKeep kp h h', fun v _ => ns.length - v.toNat, ⟨0, s, rfl, Nat.zero_le _, p, by simpa using o, Ext.refl _ _, PenKeep.refl _ _⟩, ?_⟩
  rintro _ v h5 ⟨i, s', rfl, hi, p5, o5, x5, k5⟩
  refine Br.mk (fun e1 => ?_) fun e1 => ?_
  · simp only [decide_eq_true_eq] at e1
    have e1 : i < ns.length := by have e1 : (i : Int) < (n : Int) := e1; omega
    obtain ⟨m, hm'⟩ : ∃ m, ns[i]? = some m := ⟨_, List.getElem?_eq_getElem e1⟩
    have hmm := hm m (List.mem_of_getElem? hm')
    have r5 := k5.block k _ e _ he hkk hr
    refine Idx.mk rfl (show i < n by omega) ?_
    rw [nat_mul]
    refine Ld.u (n := (m : Int)) (by rw [add_off]; exact row_cell r5 (by simp [hm'])) ?_
    show Ld _ _ _ _ _ _
    refine Ld.bytes (row_cell p5 rfl) (ct_Var hmm fun s10 h11 x11 o10 => ?_)
    have p11 := p5.ext x11
    refine ⟨Ld.bytes (row_cell p11 rfl) rfl, ?_⟩
    have hkp := (Array.getElem?_eq_some_iff.1 p).1
    have hB5 : B ≤ h5.size := by have := x5.size; omega
    have h1 := hlen i hi
    have h2 := varB_le hmm
    refine pen_append hB p11 (Owns.ext o5 x11) o10.bytes (by rw [List.length_append]; omega) fun s13 h16 p16 o16 x16 k16 => ?_
    rw [wrap_succ (by omega)]
    refine ⟨⟨i + 1, s13, rfl, by omega, p16, ?_, x5.trans ((x11.less hB5).trans x16), k5.trans ((PenKeep.ext x11).trans k16)⟩, by simp only [Int.toNat_natCast]; omega⟩
    rw [List.take_add_one, hm', List.flatMap_append, ← List.append_assoc]
    simpa using o16
  · simp only [decide_eq_false_iff_not] at e1
    have : i = ns.length := by have e1 : ¬ (i : Int) < (n : Int) := e1; omega
    rw [this, List.take_length] at o5
    exact q _ _ p5 o5 x5 k5
end
end Go.Dn.W
