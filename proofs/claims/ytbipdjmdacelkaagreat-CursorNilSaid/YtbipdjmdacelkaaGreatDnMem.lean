/- The heap: loads and stores of one cell, of a row of bytes; new blocks; texts made of bytes and bytes made of texts. -/
import Derived.Test.YtbipdjmdacelkaaGreatDnStr
import Derived.Test.YtbipdjmdacelkaaGreatDnLaw
import Derived.Laws.Cells
import Derived.Laws.BytesString
import Derived.Laws.IdiomStrings
namespace Go.Dn
open Go

def cellAt (h : Mem) (a : Addr) : Option Value :=
  match h[a.block]? with
  | some (.cells c _ _) => if a.spot.isSome then none else c[a.off]?
  | _ => none
theorem cell_eq (w : World) (a : Addr) : w.cell? a = cellAt w.heap a := rfl
def frozenAt (h : Mem) (a : Addr) : Bool :=
  match h[a.block]? with
  | some (.cells _ _ (lo, hi)) => lo ≤ a.off && a.off < hi
  | _ => false
theorem frozen_eq (w : World) (a : Addr) : w.frozen? a = frozenAt w.heap a := rfl
def setAt (h : Mem) (a : Addr) (v : Value) : Mem :=
  h.modify a.block fun
    | .cells c elem frozen => .cells (if a.spot.isSome then c else c.setIfInBounds a.off v) elem frozen
    | o => o
theorem set_eq (w : World) (a : Addr) (v : Value) : (w.setCell a v).heap = setAt w.heap a v := rfl

theorem add_zero (a : Addr) : a.add 0 = a := rfl
theorem add_off (b o n : Nat) : (⟨b, o, none⟩ : Addr).add n = ⟨b, o + n, none⟩ := by unfold Addr.add; split <;> simp_all
theorem add_add (b o n m : Nat) : ((⟨b, o, none⟩ : Addr).add n).add m = ⟨b, o + n + m, none⟩ := by rw [add_off, add_off]

section ops
variable {P : Program} {h : Mem}

theorem Ld.cell {l : Leaf} {t : TypeId} {d : TypeDesc} {p : Addr} {x : LTy l} {K : LTy l → Prop} (hu : P.underlying t = some d) (ha : isAggB P t = false) (hc : cellAt h p = some (l.enc x)) (hk : K x) :
    Ld P t p (.one (.leaf l)) h K := by
  refine ⟨l.enc x, fun w hw => ?_, [l.enc x], rfl, x, l.is_enc x, hk⟩
  subst hw
  simp [loadVar, run_isAgg hu, ha, cell_eq, hc]

theorem St.cell {t : TypeId} {p : Addr} {v : Value} {K : Mem → Prop} (hs : szOf P t = 1) (hv : v.oneCell' = true) (hc : (cellAt h p).isSome = true) (hf : frozenAt h p = false) (hk : K (setAt h p v)) :
    St P t p v h K := by
  intro w hw
  subst hw
  refine ⟨(), w.setCell p v, ?_, ⟨rfl, rfl, rfl⟩, hk⟩
  have h1 : v.cells = #[v] := by cases v <;> first | rfl | (simp [Value.oneCell'] at hv)
  simp only [storeVar, Sem.run_bind, run_szOf (show szOf P t ≠ 0 by omega), Result.andThen_ok, h1, hs]
  simp only [List.size_toArray, List.length_cons, List.length_nil, ne_eq, not_true_eq_false, if_false, storeCells, add_zero, Sem.run_bind, Sem.run_pure, run_store P w p v .plain hv]
  rw [cell_eq, frozen_eq, hf]
  cases hcc : cellAt w.heap p with
  | none => rw [hcc] at hc; cases hc
  | some x => rfl
end ops

/-! ### rows of bytes -/

def bcell (b : UInt8) : Value := .int .u8 (b.toNat : Int)
/-- the bytes l lie from a on -/
def BytesAt (h : Mem) (a : Option Addr) (l : List UInt8) : Prop :=
  match a with
  | none => l = []
  | some p => ∀ i b, l[i]? = some b → cellAt h (p.add i) = some (bcell b)

theorem ofNat_bcell (b : UInt8) : UInt8.ofNat ((b.toNat : Int)).toNat = b := by simp

theorem foldl_push (l : List UInt8) : ∀ r : ByteArray, (l.map fun b => (b.toNat : Int)).foldl (fun r n => r.push (UInt8.ofNat n.toNat)) r = ⟨r.data ++ l.toArray⟩ := by
  induction l with
  | nil => intro r; simp
  | cons b l ih =>
    intro r
    rw [List.map_cons, List.foldl_cons, ih, ofNat_bcell]
    simp [ByteArray.push]

theorem read_bytes {P : Program} {h : Mem} {a : Option Addr} {n c : Nat} {l : List UInt8} {K : ByteArray → Prop} (hn : n = l.length) (hb : BytesAt h a l) (hk : K ⟨l.toArray⟩) :
    ReadT P (Conv.bytesToString (.slice a n c)) (.one (.leaf .str)) h K := by
  refine ⟨.string ⟨l.toArray⟩, fun w hw => ?_, [.string ⟨l.toArray⟩], rfl, _, .str _, hk⟩
  subst hn
  subst hw
  cases a with
  | none => have hb : l = [] := hb; subst hb; rfl
  | some p =>
    have hl : (loadCells p l.length).run P w = .ok ((l.map fun b => (b.toNat : Int)).map (Value.int .u8)).toArray w := by
      have := run_loadCells_list (P := P) w p (l.map bcell) (fun j v hv => by
        rw [List.getElem?_map] at hv
        cases hj : l[j]? with
        | none => rw [hj] at hv; cases hv
        | some b => rw [hj] at hv; cases hv; exact hb j b hj)
      rw [List.length_map] at this
      rw [this, List.map_map]
      rfl
    rw [run_bytesToString w p l.length c _ hl, foldl_push]
    simp only [ByteArray.empty, ByteArray.emptyWithCapacity]
    simp
    rfl

/-- bytes made of a text: a row of its own, writable, with room behind -/
theorem prim_bytes {P : Program} {h : Mem} {src dst e : TypeId} {s : ByteArray} {K : Sl → Mem → Prop} (hs : P.underlying src = some .string) (hd : P.underlying dst = some (.slice e)) (he : P.underlying e = some (.int .u8))
    (hk : ∀ (cap : Nat) (o : Obj), s.size ≤ cap → o = .cells (bytesRow s cap) e ((bytesRow s cap).size, (bytesRow s cap).size + 1) → K ⟨some ⟨h.size, 0, none⟩, s.size, cap⟩ (h.push o)) :
    PrimT P (convert src dst (.string s)) (.one (.leaf .sl)) h K := by
  intro w hw
  subst hw
  refine ⟨_, _, run_bytes_of_string w src dst e s hs hd he, ⟨rfl, rfl, rfl⟩, [_], rfl, ⟨some ⟨w.heap.size, 0, none⟩, s.size, grownCap w s.size 0 e⟩, .sl _ _ _, ?_⟩
  exact hk _ _ (Nat.le_add_right _ _) rfl

theorem bytesRow_size (s : ByteArray) {cap : Nat} (hc : s.size ≤ cap) : (bytesRow s cap).size = cap := by
  have : s.data.size = s.size := rfl
  simp [bytesRow, this]; omega
theorem bytesRow_get (s : ByteArray) (cap : Nat) {i : Nat} {b : UInt8} (hb : s.toList[i]? = some b) : (bytesRow s cap)[i]? = some (bcell b) := by
  rw [toList_data, Array.getElem?_toList] at hb
  have hi : i < s.data.size := (Array.getElem?_eq_some_iff.1 hb).1
  unfold bytesRow
  rw [Array.getElem?_append_left (by simpa using hi), Array.getElem?_map, hb]
  rfl

theorem push_get_size (h : Mem) (o : Obj) : (h.push o)[h.size]? = some o := by simp
theorem push_get_lt (h : Mem) (o : Obj) {k : Nat} (hk : k < h.size) : (h.push o)[k]? = h[k]? := Array.getElem?_push_lt .. ▸ (Array.getElem?_eq_getElem hk).symm
theorem Ext.push (h : Mem) (o : Obj) {B : Nat} (hB : B ≤ h.size) : Ext B h (h.push o) := ⟨by simp, fun k hk => push_get_lt h o (Nat.lt_of_lt_of_le hk hB)⟩
theorem setAt_size (h : Mem) (a : Addr) (v : Value) : (setAt h a v).size = h.size := by simp [setAt]
theorem setAt_ne (h : Mem) (a : Addr) (v : Value) {k : Nat} (hk : k ≠ a.block) : (setAt h a v)[k]? = h[k]? := by
  unfold setAt
  rw [Array.getElem?_modify, if_neg (fun e => hk e.symm)]
theorem Ext.set (h : Mem) (a : Addr) (v : Value) {B : Nat} (hB : B ≤ a.block) : Ext B h (setAt h a v) := ⟨by rw [setAt_size]; exact Nat.le_refl _, fun k hk => setAt_ne h a v (by omega)⟩
theorem setAt_self (h : Mem) (b o : Nat) (v : Value) {c : Array Value} {e : TypeId} {fz : Nat × Nat} (hb : h[b]? = some (.cells c e fz)) : (setAt h ⟨b, o, none⟩ v)[b]? = some (.cells (c.setIfInBounds o v) e fz) := by
  unfold setAt
  rw [Array.getElem?_modify, if_pos rfl, hb]
  rfl
theorem cellAt_row {h : Mem} {b o : Nat} {c : Array Value} {e : TypeId} {fz : Nat × Nat} (hb : h[b]? = some (.cells c e fz)) : cellAt h ⟨b, o, none⟩ = c[o]? := by
  unfold cellAt
  rw [hb]; rfl
theorem frozenAt_row {h : Mem} {b o : Nat} {c : Array Value} {e : TypeId} {lo hi : Nat} (hb : h[b]? = some (.cells c e (lo, hi))) : frozenAt h ⟨b, o, none⟩ = (decide (lo ≤ o) && decide (o < hi)) := by
  unfold frozenAt
  rw [hb]

theorem IsNew.eq {o : Obj} {h : Mem} {b : Nat} {h' : Mem} (n : IsNew o h b h') : b = h.size ∧ h' = h.push o := n

theorem Idx.mk {a : Option Addr} {p : Addr} {len : Nat} {i : Nat} {K : Addr → Prop} (ha : a = some p) (hi : i < len) (hk : K p) : Idx a len (i : Int) K := ⟨p, ha, by omega, by omega, hk⟩
theorem Cut.hi {sz : Nat} {a : Option Addr} {len cap n : Nat} {K : Sl → Prop} (h : n ≤ cap) (hk : K (cutSl sz a 0 n cap)) : Cut sz a len cap none (some (n : Int)) none K := ⟨0, n, cap, rfl, ⟨rfl, h⟩, rfl, hk⟩
theorem Cut.lo {sz : Nat} {a : Option Addr} {len cap n : Nat} {K : Sl → Prop} (h : n ≤ len) (hk : K (cutSl sz a n len cap)) : Cut sz a len cap (some (n : Int)) none none K := ⟨n, len, cap, rfl, ⟨rfl, rfl⟩, ⟨rfl, h⟩, hk⟩
theorem Cut.both {sz : Nat} {a : Option Addr} {len cap n m : Nat} {K : Sl → Prop} (h : n ≤ m) (hm : m ≤ cap) (hk : K (cutSl sz a n m cap)) : Cut sz a len cap (some (n : Int)) (some (m : Int)) none K := ⟨n, m, cap, rfl, ⟨rfl, hm⟩, ⟨rfl, h⟩, hk⟩
theorem cutSl_zero {sz : Nat} {a : Option Addr} {n c : Nat} : cutSl sz a 0 n c = ⟨a, n, c⟩ := by
  unfold cutSl
  rw [Nat.zero_mul, Nat.sub_zero, Nat.sub_zero]
  split
  · rfl
  · cases a <;> rfl
end Go.Dn
