/- Frames by the type of a row; values put behind; one value stored. -/
import Derived.Test.YtbipdjmdacelkaaGreatDnU
set_option linter.unusedVariables false
namespace Go.Dn
open Go Go.Dn Go.Dn.W Go.Proofs

section
variable {h h' : Mem} {B k size : Nat} {e e' : TypeId} {s : Sl} {xs : List Value} {c : Array Value} {fz : Nat × Nat}
theorem Owns.neT (o : Owns h B e size s xs) (hk : h[k]? = Option.some (Obj.cells c e' fz)) (hne : e' ≠ e) : ∀ a, s.a = Option.some a → a.block ≠ k := fun a ha e0 => by
  obtain ⟨_, _, c', hc'⟩ := o.blk ha
  rw [e0, hk] at hc'
  cases hc'
  exact hne rfl
theorem Owns.neB (o : Owns h B e size s xs) (hk : k < B) : ∀ a, s.a = Option.some a → a.block ≠ k := fun a ha e0 => by
  have := (o.blk ha).1
  omega
theorem Grown.row (g : Grown s h h') (o : Owns h B e size s xs) (hk : h[k]? = Option.some (Obj.cells c e' fz)) (hne : e' ≠ e) : h'[k]? = Option.some (Obj.cells c e' fz) :=
  (g.block k (Array.getElem?_eq_some_iff.1 hk).1 fun a ha e0 => o.neT hk hne a ha e0.symm).trans hk
theorem Owns.updT (o : Owns h B e size s xs) (u : Upd k h h') (hk : h[k]? = Option.some (Obj.cells c e' fz)) (hne : e' ≠ e) : Owns h' B e size s xs := o.kept fun a ha => u.block _ (o.neT hk hne a ha)
theorem Owns.updN (o : Owns h B e size s xs) (u : Upd k h h') (hn : ∀ a, s.a = Option.some a → a.block ≠ k) : Owns h' B e size s xs := o.kept fun a ha => u.block _ (hn a ha)
theorem W.Els.keep {l : List Value} (x : Els h s l) (hk : ∀ a, s.a = Option.some a → h'[a.block]? = h[a.block]?) : Els h' s l := ⟨x.len, fun i v hv => by
  obtain ⟨a, ha, hc⟩ := x.at_ i v hv
  refine ⟨a, ha, ?_⟩
  unfold cellAt at *
  rw [add_block] at *
  rw [hk a ha]; exact hc, x.nil, x.cap⟩
theorem Upd.row {b : Nat} (u : Upd b h h') (hk : h[k]? = Option.some (Obj.cells c e fz)) (hn : k ≠ b) : h'[k]? = Option.some (Obj.cells c e fz) := (u.block k hn).trans hk
theorem Ext.row {n : Nat} (x : Ext n h h') (hk : h[k]? = Option.some (Obj.cells c e fz)) (hn : k < n) : h'[k]? = Option.some (Obj.cells c e fz) := (x.block k hn).trans hk
theorem Ext.row' (x : Ext h.size h h') (hk : h[k]? = Option.some (Obj.cells c e fz)) : h'[k]? = Option.some (Obj.cells c e fz) := x.row hk (Array.getElem?_eq_some_iff.1 hk).1
theorem ne_row {k2 : Nat} {c2 : Array Value} {fz2 : Nat × Nat} (h1 : h[k]? = Option.some (Obj.cells c e fz)) (h2 : h[k2]? = Option.some (Obj.cells c2 e' fz2)) (hne : e ≠ e') : k ≠ k2 := fun e0 => by
  subst e0
  rw [h1] at h2
  cases h2
  exact hne rfl
theorem row_lt (h1 : h[k]? = Option.some (Obj.cells c e fz)) : k < h.size := (Array.getElem?_eq_some_iff.1 h1).1

/-- one value is stored into a row -/
theorem St.at1 {t : TypeId} {cs : List Value} {o : Nat} {v : Value} {K : Mem → Prop} (hu : ∃ d, PG.underlying t = some d) (hsz : szOf PG t = 1) (hv : v.cells = #[v]) (h1 : v.oneCell' = true) (hr : h[k]? = Option.some (Obj.cells cs.toArray e (0, 0))) (ho : o < cs.length)
    (hk : ∀ h', Upd k h h' → h'[k]? = Option.some (Obj.cells (cs.set o v).toArray e (0, 0)) → K h') : St PG t ((⟨k, 0, none⟩ : Addr).add o) v h K := by
  obtain ⟨d, hd⟩ := hu
  rw [add_off, Nat.zero_add]
  refine St.row hd (vs := [v]) hv hsz (by intro u hu; simp only [List.mem_cons, List.not_mem_nil, or_false] at hu; subst hu; exact h1) hr (by simp only [List.size_toArray, List.length_cons, List.length_nil]; omega) fun h' u r => hk h' u ?_
  rw [r]
  congr 2
  show (cs.take o ++ [v] ++ cs.drop (o + 1)).toArray = _
  rw [List.set_eq_take_append_cons_drop, if_pos ho]; simp

end
end Go.Dn
namespace Go.Dn.W
open Go Go.Dn Go.Proofs
section
variable {h h' : Mem} {B k size : Nat} {e : TypeId} {s : Sl} {xs : List Value}
/-- the box of a value is put behind -/
theorem put_box {h1 : Mem} {t : TypeId} {bytes : Nat} {news : List Value} (ht : PG.underlying t = some (.slice e)) (hi : infoOk PG e size bytes = true) (hb0 : 0 < bytes) (o : Owns h B e size s xs) (x1 : Ext h.size h h1) (r1 : h1[k]? = some (.cells news.toArray e (0, 0))) (hk0 : h.size ≤ k) (hl : news.length = size) (hn : ∀ u ∈ news, u.oneCell' = true)
    (hb : (s.len + 1) * bytes ≤ 140737488355328) (hB : B ≤ h.size) {K : Sl → Mem → Prop} (hk : ∀ s' h', s'.len = s.len + 1 → Owns h' B e size s' (xs ++ news) → Grown s h h' → K s' h') :
    PrimT PG (Builtin.append_ #[t, t] t #[.slice s.a s.len s.cap, .slice (some ⟨k, 0, none⟩) 1 1]) (.one (.leaf .sl)) h1 K := by
  refine append_go ht hi (o.ext x1) (v := ⟨some ⟨k, 0, none⟩, 1, 1⟩) (by rw [hl, Nat.one_mul]) (fun a ha => ?_) (fun hn => by cases hn) hn hb hb0 (Nat.le_trans hB x1.size) fun s' h' hs' o' g => hk s' h' hs' o' ⟨Nat.le_trans x1.size g.size, fun j hj hne => (g.block j (Nat.lt_of_lt_of_le hj x1.size) hne).trans (x1.block j hj)⟩
  cases ha
  exact Cells.whole r1
theorem put_new {t : TypeId} {bytes : Nat} {news : List Value} (ht : PG.underlying t = some (.slice e)) (hi : infoOk PG e size bytes = true) (hb0 : 0 < bytes) (o : Owns h B e size s xs) (hl : news.length = size) (hn : ∀ u ∈ news, u.oneCell' = true)
    (hb : (s.len + 1) * bytes ≤ 140737488355328) (hB : B ≤ h.size) {K : Sl → Mem → Prop} (hk : ∀ s' h', s'.len = s.len + 1 → Owns h' B e size s' (xs ++ news) → Grown s h h' → K s' h') :
    New (.cells news.toArray e) h fun k h1 => PrimT PG (Builtin.append_ #[t, t] t #[.slice s.a s.len s.cap, .slice (some ⟨k, 0, none⟩) 1 1]) (.one (.leaf .sl)) h1 K :=
  New.go fun h1 _ x1 z1 r1 => put_box ht hi hb0 o x1 r1 (Nat.le_refl _) hl hn hb hB hk
end

/-- append, and where the row lies then -/
theorem append_at {P : Program} {h : Mem} {base : Nat} {t ty e : TypeId} {size bytes : Nat} (ht : P.underlying t = some (.slice e)) (hi : infoOk P e size bytes = true) {s : Sl} {xs : List Value} (hown : Owns h base e size s xs)
    {v : Sl} {news : List Value} (hl : news.length = v.len * size) (hnews : ∀ a, v.a = some a → Cells h a news) (hnil : v.a = none → v.len = 0 ∧ v.cap = 0) (h1 : ∀ u ∈ news, u.oneCell' = true)
    (hbytes : (s.len + v.len) * bytes ≤ 140737488355328) (hb0 : 0 < bytes) (hbase : base ≤ h.size) {K : Sl → Mem → Prop}
    (hk : ∀ s' h', s'.len = s.len + v.len → Owns h' base e size s' (xs ++ news) → Grown s h h' → (∀ b, s'.a = some b → s.a = some b ∨ h.size ≤ b.block) → K s' h') :
    PrimT P (Builtin.append_ #[t, t] ty #[.slice s.a s.len s.cap, .slice v.a v.len v.cap]) (.one (.leaf .sl)) h K := by
  intro w hw
  subst hw
  obtain ⟨u, w', hr, hs, vs, rfl, hap⟩ := append_go (ty := ty) ht hi hown hl hnews hnil h1 hbytes hb0 hbase (K := fun s' h' => s'.len = s.len + v.len ∧ Owns h' base e size s' (xs ++ news) ∧ Grown s w.heap h') (fun s' h' a b c => ⟨a, b, c⟩) w rfl
  match vs, hap with
  | [_], ⟨⟨sa', sl', sc'⟩, .sl _ _ _, h4, h5, h6⟩ =>
  refine ⟨_, w', hr, hs, _, rfl, ⟨sa', sl', sc'⟩, .sl _ _ _, hk _ w'.heap h4 h5 h6 fun b hb => ?_⟩
  obtain ⟨i, z, hii, hz, hsz, hby, hzs, hs0⟩ := infoOk_spec hi
  subst hsz hby
  obtain ⟨va, vl, vc⟩ := v
  obtain ⟨sa, sl, sc⟩ := s
  have hb : sa' = some b := hb
  subst hb
  have hbytes : (sl + vl) * i.bytes ≤ 140737488355328 := hbytes
  have hm : sl + vl ≤ 140737488355328 := Nat.le_trans (Nat.le_mul_of_pos_right _ hb0) hbytes
  cases va with
  | none =>
    obtain ⟨h0, hc⟩ := hnil rfl
    simp only at h0 hc
    subst h0 hc
    have := (run_append_owned_none (P := P) w base t ty e i _ ht hii _ _ xs hown).symm.trans hr
    simp only [Result.ok.injEq] at this
    have e1 := this.1
    simp only [Kd.build, Cmp.build, Value.slice.injEq] at e1
    exact .inl e1.1
  | some a =>
    have hn := hnews a rfl
    rcases hown.2 with ⟨hv, h0⟩ | ⟨g, cap, cur, hv, hB, hg, hc, hcm, hcs, htk⟩
    · simp only [Value.slice.injEq] at hv
      obtain ⟨rfl, rfl, rfl⟩ := hv
      by_cases hm0 : vl = 0
      · subst hm0
        have hn0 : news = [] := List.eq_nil_of_length_eq_zero (by rw [hl]; simp)
        subst hn0
        have e0 : (Builtin.append_ #[t, t] ty #[.slice none 0 0, .slice (some a) 0 vc]).run P w = .ok (.slice none 0 0) w := by
          simp [Builtin.append_, run_underlying ht, sizeOf, typeInfo, hii, Builtin.lenOf, Builtin.firstCells, loadCells, loadCellsFrom]
        have := e0.symm.trans hr
        simp [Kd.build, Cmp.build] at this
      · have e0 := run_append_nil (P := P) w t ty e i z ht hii hz a vl vc news hl hn (by omega) (by omega) (by have := hbytes; simp only [Nat.zero_add] at this; omega)
        have := e0.symm.trans hr
        simp only [Result.ok.injEq] at this
        have e1 := this.1
        simp only [Kd.build, Cmp.build, Value.slice.injEq, Option.some.injEq] at e1
        exact .inr (by rw [← e1.1]; exact Nat.le_refl _)
    · simp only [Value.slice.injEq] at hv
      obtain ⟨rfl, -, rfl⟩ := hv
      by_cases hroom : sl + vl ≤ sc
      · have hlen := hown.1
        have e0 := run_append_room (P := P) w t ty e i ht hii g sl sc cur hg a vl vc news hl hn h1 hroom (by rw [hl, hcs, ← Nat.add_mul]; exact Nat.mul_le_mul_right _ hroom)
        have := e0.symm.trans hr
        simp only [Result.ok.injEq] at this
        have e1 := this.1
        simp only [Kd.build, Cmp.build, Value.slice.injEq] at e1
        exact .inl e1.1
      · have holds : ∀ j u, xs[j]? = some u → w.cell? ((⟨g, 0, none⟩ : Addr).add j) = some u := Owns.cells (s := ⟨some ⟨g, 0, none⟩, sl, sc⟩) hown rfl
        have e0 := run_append_grow (P := P) w t ty e i z ht hii hz ⟨g, 0, none⟩ sl sc xs hown.1 holds a vl vc news hl hn (by omega) (by omega) (growslice_fits (by omega) hbytes)
        have := e0.symm.trans hr
        simp only [Result.ok.injEq] at this
        have e1 := this.1
        simp only [Kd.build, Cmp.build, Value.slice.injEq, Option.some.injEq] at e1
        exact .inr (by rw [← e1.1]; exact Nat.le_refl _)
/-! ### numbers again -/
theorem i64_cast {m : Nat} (h : m ≤ 9223372036854775807) {n : Int} (e : n = (m : Int)) : IntKind.i64.wrap n = (m : Int) := by rw [e]; exact i64_nat h
end Go.Dn.W
namespace Go.Dn.W
open Go Go.Dn Go.Proofs
/-- the zero value of a type of one cell -/
def zeroB (t : TypeId) (v : Value) : Prop := zeroOf PG t = some [v]
theorem made_list (v : Value) (n : Nat) : (madeCells #[v] (n * 1)).toList = List.replicate n v := by
  apply List.ext_getElem?
  intro i
  simp [madeCells, List.getElem?_replicate]
  split <;> simp_all [Nat.mod_one]
theorem make_full {h : Mem} {t e : TypeId} {bytes n : Nat} {v : Value} {K : Sl → Mem → Prop} (ht : PG.underlying t = some (.slice e)) (hi : infoOk PG e 1 bytes = true) (hz : zeroOf PG e = some [v]) (hb : bytes * n ≤ 281474976710656) (h63 : n ≤ 281474976710656)
    (hk : ∀ h', Owns h' h.size e 1 ⟨some ⟨h.size, 0, none⟩, n, n⟩ (List.replicate n v) → Ext h.size h h' → K ⟨some ⟨h.size, 0, none⟩, n, n⟩ h') : PrimT PG (Instr.makeSlice t (.int .i64 (n : Int)) (.int .i64 (n : Int))) (.one (.leaf .sl)) h K := by
  obtain ⟨i, z, hi', hz', hsz, hby, hzs, hpos⟩ := infoOk_spec hi
  have hzc : z.cells = #[v] := by
    unfold zeroOf at hz
    rw [hi'] at hz
    simp only [hz', Option.some.injEq] at hz
    apply Array.ext'
    rw [← cellsL_eq, hz]
  intro w hw
  subst hw
  obtain ⟨w', hr, ho, hg⟩ := run_make_full (P := PG) w w.heap.size t e i z 1 ht hi' hz' hsz .i64 .i64 n (by rw [hby]; exact hb) (by simp only [maxLen]; omega) (Nat.le_refl _)
  rw [hzc, made_list] at ho
  exact ⟨_, w', hr, ⟨hg.os, hg.tape, hg.output⟩, [_], rfl, ⟨some ⟨w.heap.size, 0, none⟩, n, n⟩, .sl _ _ _, hk _ ho ⟨hg.size, fun k hk => hg.block k hk (by simp)⟩⟩
end Go.Dn.W
