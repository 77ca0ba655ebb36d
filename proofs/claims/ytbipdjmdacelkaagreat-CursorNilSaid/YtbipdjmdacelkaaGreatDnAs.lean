/- The arena: its state in the heap; looking, roots, making. -/
import Derived.Test.YtbipdjmdacelkaaGreatDnAr
set_option linter.unusedVariables false
namespace Go.Dn.W
open Go Go.Dn Go.Proofs

structure Ar where
  w : List Nat
  most : Nat
  roots : List Nat
  objs : Nat → Bool
def arcells (sw sr : Sl) (most mp ka : Nat) : List Value := [sval sw, .int .i64 (most : Int), sval sr, .map (some mp), .func (.func fn_arena_Arena_has) #[.pointer (some ⟨ka, 0, none⟩)] #[]]
structure ArIs (h : Mem) (ka : Nat) (A : Ar) (sw sr : Sl) (mp n : Nat) : Prop where
  r : h[ka]? = some (.cells (arcells sw sr A.most mp ka).toArray ty_arena_Arena (0, 0))
  w : Owns h 0 ty_uint32 1 sw (A.w.map wcell)
  roots : Owns h 0 ty_int 1 sr (A.roots.map icell)
  set : SetIs h mp n A.objs
  wb : ∀ v ∈ A.w, v ≤ 4294967295
  rb : ∀ v ∈ A.roots, v ≤ 4294967295
  most : A.w.length ≤ A.most ∧ A.most ≤ 1048576
  n : n ≤ A.w.length
def ArAt (h : Mem) (ka : Nat) (A : Ar) : Prop := ∃ sw sr mp n, ArIs h ka A sw sr mp n
/-- block j is of the arena -/
def InAr (h : Mem) (ka j : Nat) : Prop := j = ka ∨ ∃ sw sr most mp ka', h[ka]? = some (.cells (arcells sw sr most mp ka').toArray ty_arena_Arena (0, 0)) ∧ ((∃ a, sw.a = some a ∧ j = a.block) ∨ (∃ a, sr.a = some a ∧ j = a.block) ∨ j = mp)
/-- of what lay below n the arena alone has turned -/
structure ArX (ka n : Nat) (h h' : Mem) : Prop where
  size : h.size ≤ h'.size
  block : ∀ j, j < n → ¬ InAr h ka j → h'[j]? = h[j]?
  inar : ∀ j, InAr h' ka j → n ≤ j ∨ InAr h ka j
def Safe (h : Mem) (ka j : Nat) : Prop := j < h.size ∧ ¬ InAr h ka j
theorem ArX.refl (ka n : Nat) (h : Mem) : ArX ka n h h := ⟨Nat.le_refl _, fun _ _ _ => rfl, fun _ hj => .inr hj⟩
theorem ArX.trans {ka n : Nat} {h h' h'' : Mem} (a : ArX ka n h h') (b : ArX ka n h' h'') : ArX ka n h h'' := by
  refine ⟨Nat.le_trans a.size b.size, fun j hj hn => ?_, fun j hj => ?_⟩
  · refine (b.block j hj fun hi => ?_).trans (a.block j hj hn)
    rcases a.inar j hi with h1 | h1
    · omega
    · exact hn h1
  · rcases b.inar j hj with h1 | h1
    · exact .inl h1
    · exact a.inar j h1
theorem ArX.less {ka n m : Nat} {h h' : Mem} (a : ArX ka n h h') (hm : m ≤ n) : ArX ka m h h' := ⟨a.size, fun j hj hn => a.block j (Nat.lt_of_lt_of_le hj hm) hn, fun j hj => (a.inar j hj).imp (fun h => Nat.le_trans hm h) id⟩
theorem ArX.after {ka : Nat} {h h' h'' : Mem} (a : ArX ka h.size h h') (b : ArX ka h'.size h' h'') : ArX ka h.size h h'' := a.trans (b.less a.size)
theorem Safe.keep {ka n j : Nat} {h h' : Mem} (s : Safe h ka j) (hj : j < n) (x : ArX ka n h h') : h'[j]? = h[j]? := x.block j hj s.2
theorem Safe.arx {ka n j : Nat} {h h' : Mem} (s : Safe h ka j) (hj : j < n) (x : ArX ka n h h') : Safe h' ka j := ⟨Nat.lt_of_lt_of_le s.1 x.size, fun hi => by
  rcases x.inar j hi with h1 | h1
  · omega
  · exact s.2 h1⟩
theorem inAr_of {ka j : Nat} {h h' : Mem} (e : h'[ka]? = h[ka]?) : InAr h' ka j → InAr h ka j := fun x => by
  rcases x with x | ⟨sw, sr, most, mp, ka', hr, x⟩
  · exact .inl x
  · exact .inr ⟨sw, sr, most, mp, ka', e ▸ hr, x⟩
section
variable {h : Mem} {ka : Nat} {A : Ar} {sw sr : Sl} {mp n : Nat}
theorem ArIs.lt (a : ArIs h ka A sw sr mp n) : ka < h.size := (Array.getElem?_eq_some_iff.1 a.r).1
theorem ArIs.inar (a : ArIs h ka A sw sr mp n) {j : Nat} (x : InAr h ka j) : j = ka ∨ (∃ ad, sw.a = some ad ∧ j = ad.block) ∨ (∃ ad, sr.a = some ad ∧ j = ad.block) ∨ j = mp := by
  rcases x with x | ⟨sw', sr', most, mp', ka', hr, x⟩
  · exact .inl x
  · have e1 : some (sval sw) = some (sval sw') := (row_cell (o := 0) a.r rfl).symm.trans (row_cell hr rfl)
    have e2 : some (sval sr) = some (sval sr') := (row_cell (o := 2) a.r rfl).symm.trans (row_cell hr rfl)
    have e3 : some (Value.map (some mp)) = some (Value.map (some mp')) := (row_cell (o := 3) a.r rfl).symm.trans (row_cell hr rfl)
    simp only [Option.some.injEq, Value.slice.injEq, Value.map.injEq] at e1 e2 e3
    rw [← e1.1, ← e2.1, ← e3] at x
    exact .inr x
theorem ArIs.below (a : ArIs h ka A sw sr mp n) {j : Nat} (x : InAr h ka j) : j < h.size := by
  rcases a.inar x with rfl | ⟨ad, ha, rfl⟩ | ⟨ad, ha, rfl⟩ | rfl
  · exact a.lt
  · exact (Owns.blk a.w ha).2.1
  · exact (Owns.blk a.roots ha).2.1
  · exact a.set.lt
theorem ArIs.wIn (a : ArIs h ka A sw sr mp n) {ad : Addr} (ha : sw.a = some ad) : InAr h ka ad.block := .inr ⟨_, _, _, _, _, a.r, .inl ⟨ad, ha, rfl⟩⟩
theorem ArIs.rIn (a : ArIs h ka A sw sr mp n) {ad : Addr} (ha : sr.a = some ad) : InAr h ka ad.block := .inr ⟨_, _, _, _, _, a.r, .inr (.inl ⟨ad, ha, rfl⟩)⟩
theorem ArIs.mIn (a : ArIs h ka A sw sr mp n) : InAr h ka mp := .inr ⟨_, _, _, _, _, a.r, .inr (.inr rfl)⟩
theorem ArIs.ext {h' : Mem} (a : ArIs h ka A sw sr mp n) (x : Ext h.size h h') : ArIs h' ka A sw sr mp n := ⟨(x.block _ a.lt).trans a.r, Owns.ext a.w x, Owns.ext a.roots x, a.set.keep (x.block _ a.set.lt), a.wb, a.rb, a.most, a.n⟩
theorem ArAt.ext {h' : Mem} (a : ArAt h ka A) (x : Ext h.size h h') : ArAt h' ka A := let ⟨sw, sr, mp, n, a⟩ := a; ⟨sw, sr, mp, n, a.ext x⟩
theorem ArAt.arx {h' : Mem} (a : ArAt h ka A) (x : Ext h.size h h') : ArX ka h.size h h' := by
  obtain ⟨sw, sr, mp, n, a⟩ := a
  exact ⟨x.size, fun j hj _ => x.block j hj, fun j hj => .inr (inAr_of (x.block _ a.lt) hj)⟩
theorem ArAt.lt (a : ArAt h ka A) : ka < h.size := let ⟨sw, sr, mp, n, a⟩ := a; a.lt
/-- what is new is not of the arena -/
theorem ArAt.safe {h' : Mem} (a : ArAt h ka A) (x : Ext h.size h h') {j : Nat} (h1 : h.size ≤ j) (h2 : j < h'.size) : Safe h' ka j := by
  obtain ⟨sw, sr, mp, n, a⟩ := a
  refine ⟨h2, fun hi => ?_⟩
  have := a.below (inAr_of (x.block _ a.lt) hi)
  omega
/-- a block that is not of the arena is written -/
theorem ArIs.upd {h' : Mem} {j m : Nat} (a : ArIs h ka A sw sr mp n) (s : Safe h ka j) (hm : m ≤ j) (u : Upd j h h') : ArIs h' ka A sw sr mp n ∧ ArX ka m h h' := by
  have hk : ∀ i, InAr h ka i → h'[i]? = h[i]? := fun i hi => u.block i fun e => s.2 (e ▸ hi)
  have hka := hk ka (.inl rfl)
  refine ⟨⟨hka.trans a.r, Owns.kept a.w fun ad ha => hk _ (a.wIn ha), Owns.kept a.roots fun ad ha => hk _ (a.rIn ha), a.set.keep (hk _ a.mIn), a.wb, a.rb, a.most, a.n⟩, ?_⟩
  exact ⟨Nat.le_of_eq u.size.symm, fun i hi _ => u.block i (by omega), fun i hi => .inr (inAr_of hka hi)⟩
theorem ArAt.upd {h' : Mem} {j m : Nat} (a : ArAt h ka A) (s : Safe h ka j) (hm : m ≤ j) (u : Upd j h h') : ArAt h' ka A ∧ ArX ka m h h' := let ⟨sw, sr, mp, n, a⟩ := a; ⟨⟨sw, sr, mp, n, (a.upd s hm u).1⟩, (a.upd s hm u).2⟩
theorem Safe.upd {h' : Mem} {i j : Nat} (t : Safe h ka i) (s : Safe h ka j) (u : Upd j h h') : Safe h' ka i := ⟨by rw [u.size]; exact t.1, fun hi => t.2 (inAr_of (u.block ka fun e => s.2 (.inl e.symm)) hi)⟩
theorem Safe.ext {h' : Mem} {i : Nat} (a : ArAt h ka A) (t : Safe h ka i) (x : Ext h.size h h') : Safe h' ka i := ⟨Nat.lt_of_lt_of_le t.1 x.size, fun hi => t.2 (inAr_of (x.block ka a.lt) hi)⟩

/-! ### looking -/
theorem deref_sw (a : ArIs h ka A sw sr mp n) {K : Sl → Prop} (hk : K sw) : Ld PG ty_sl_uint32 ⟨ka, 0, none⟩ (.one (.leaf .sl)) h K := Ld.words (row_cell a.r rfl) hk
theorem deref_sr (a : ArIs h ka A sw sr mp n) {K : Sl → Prop} (hk : K sr) : Ld PG ty_sl_int ((⟨ka, 0, none⟩ : Addr).add 2) (.one (.leaf .sl)) h K := Ld.ints (row_at a.r rfl) hk
theorem ct_has {Q : Bool → Mem → Prop} (a : ArAt h ka A) {j : Nat} (hj : j ≤ 9223372036854775807) (q : Q (A.objs j) h) : CallF PG fn_arena_Arena_has [.pointer (some ⟨ka, 0, none⟩), .int .i64 (j : Int)] (.one (.leaf .bool)) h Q := by
  obtain ⟨sw, sr, mp, n, a⟩ := a
  refine call_arena_Arena_has ?_
  show Ld _ _ _ _ _ _
  exact Ld.map (row_at a.r rfl) (a.set.look hj q)
theorem ct_is {Q : Bool → Mem → Prop} (a : ArAt h ka A) {j : Nat} (hj : j ≤ 9223372036854775807) (q : Q (A.objs j) h) :
    Ld PG ty_func_int_bool ((⟨ka, 0, none⟩ : Addr).add 4) (.one (.leaf .raw)) h fun v => CallV PG v [.int .i64 (j : Int)] (.one (.leaf .bool)) h Q := by
  have a' := a
  obtain ⟨sw, sr, mp, n, a⟩ := a
  exact Ld.has (row_at a.r rfl) (callV_bound (first := [.pointer (some ⟨ka, 0, none⟩)]) (bound := []) (ct_has a' hj q))
theorem ct_Root {Q : Int → Mem → Prop} (a : ArAt h ka A) {slot r : Nat} (hr : A.roots[slot]? = some r) (q : Q (r : Int) h) : CallF PG fn_arena_Arena_Root [.pointer (some ⟨ka, 0, none⟩), .int .i64 (slot : Int)] (.one (.leaf (.int .i64))) h Q := by
  obtain ⟨sw, sr, mp, n, a⟩ := a
  have e := Owns.els a.roots
  have hlen := e.len
  rw [List.length_map] at hlen
  have hs := (List.getElem?_eq_some_iff.1 hr).1
  refine call_arena_Arena_Root (Br.f rfl (Br.f (by simp) ?_))
  show Ld _ _ _ _ _ _
  refine deref_sr a (Br.f (by simp; omega) ?_)
  show Ld _ _ _ _ _ _
  refine deref_sr a (e.get (v := icell r) (by rw [List.getElem?_map, hr]; rfl) fun ad ha hc => ?_)
  rw [nat_mul, Nat.mul_one]
  exact Ld.i hc q
end
end Go.Dn.W
