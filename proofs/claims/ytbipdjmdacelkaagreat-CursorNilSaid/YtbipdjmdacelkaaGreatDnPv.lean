/- Forests: put, the walk. -/
import Derived.Test.YtbipdjmdacelkaaGreatDnPu
set_option linter.unusedVariables false
namespace Go.Dn.W
open Go Go.Dn Go.Proofs
structure ArOk (A : Ar) : Prop where
  pos : 0 < A.w.length
  zero : A.objs 0 = false
theorem ArOk.reach {A A' : Ar} (a : ArOk A) (x : Reach A A') : ArOk A' := by
  induction x with
  | refl => exact a
  | add o rc ok hb ih =>
    refine ⟨by rw [add_len]; have := ih.pos; omega, ?_⟩
    simp only [Ar.add, Bool.or_eq_false_iff, decide_eq_false_iff_not]
    exact ⟨by have := ih.pos; omega, ih.zero⟩
theorem IsObj.ne0 {A : Ar} {at' : Nat} {o : Obj'} (x : IsObj A at' o) (a : ArOk A) : at' ≠ 0 := fun e => by
  have := x.is
  rw [e, a.zero] at this; cases this
theorem Tree.ne0 {A : Ar} {lo d at' : Nat} {l : List En} (t : Tree A lo d at' l) (a : ArOk A) : at' ≠ 0 := by
  obtain ⟨es, kids, x, _⟩ := t; exact x.ne0 a
theorem Tree.is {A : Ar} {lo d at' : Nat} {l : List En} (t : Tree A lo d at' l) : A.objs at' = true ∧ at' < A.w.length := by
  obtain ⟨es, kids, x, _⟩ := t; exact ⟨x.is, x.lt⟩
section
variable {h : Mem} {ka : Nat} {A : Ar} {s1 s2 s3 : Sl} {es : List En} {kids : List Nat} {h0 : Mem} {kf k1 k3 k5 B : Nat} {r : Rf}
theorem below_ar (a : ArAt h ka A) {j : Nat} (x : InAr h ka j) : j < h.size := by obtain ⟨_, _, _, _, a⟩ := a; exact a.below x
theorem PL.setKid {i k : Nat} {K : Mem → Prop} (p : PL h0 h kf ka k1 k3 k5 B A r s1 s2 s3 es kids) (hi : i < kids.length) {a : Addr} (ha : s3.a = some a)
    (hk : ∀ h', PL h0 h' kf ka k1 k3 k5 B A r s1 s2 s3 es (kids.set i k) → Upd a.block h h' → K h') : St PG ty_int (a.add (i * 1)) (.int .i64 (k : Int)) h K := by
  have ks := p.ks
  obtain ⟨hb1, hb2, c, hc⟩ := p.nd.p.blk ha
  refine Owns.store1 ⟨_, und_i⟩ (by kernel_rfl) p.nd.p (v := icell k) (by rw [List.length_map]; exact hi) rfl rfl ha fun h' o u => hk h' ?_ u
  have hsf := p.f3 a ha
  have frm : ∀ j, InAr h ka j → h'[j]? = h[j]? := fun j hj => u.block j fun e => hsf.2 (e ▸ hj)
  have hka : h'[ka]? = h[ka]? := frm ka (.inl rfl)
  exact ⟨⟨u.row p.f.r (by omega), p.f.a.frame frm⟩, p.ax.trans (ArX.frame (Nat.le_of_eq u.size.symm) frm fun j hj _ => u.block j (by omega)), u.row p.r1 (by omega), u.row p.r3 (by omega), u.row p.r5 (by omega), ⟨p.nd.k.updT u hc (by decide), p.nd.r.updT u hc (by decide), by rw [List.map_set]; exact o⟩, fun b hb => ⟨by rw [u.size]; exact (p.f3 b hb).1, fun hin => (p.f3 b hb).2 (inAr_of hka hin)⟩, by rw [u.size]; omega⟩
theorem PL.insKid {i k : Nat} {K : Mem → Prop} (p : PL h0 h kf ka k1 k3 k5 B A r s1 s2 s3 es kids) (hi : i ≤ kids.length) (hl : kids.length ≤ 1000) (hk : ∀ s3' h', PL h0 h' kf ka k1 k3 k5 B A r s1 s2 s3' es (insK kids i k) → K h') :
    New (Obj.cells #[Value.int IntKind.i64 (k : Int)] ty_int) h fun (k74 : Nat) (h75 : Mem) => CallF PG fn_slices_Insert_int_int_ [Value.slice s3.a s3.len s3.cap, Value.int IntKind.i64 (i : Int), Value.slice (some (Addr.mk k74 0 none)) 1 1] (Kd.one (Cmp.leaf Leaf.sl)) h75 fun (s76 : Sl) (h77 : Mem) =>
      St PG ty_sl_int ((Addr.mk k5 0 none).add 2) (Value.slice s76.a s76.len s76.cap) h77 K := by
  have ks := p.ks
  have lp := Owns.len1 p.nd.p
  rw [List.length_map] at lp
  refine New.go fun h75 _ x75 z75 r75 => ?_
  have o75 := p.nd.p.ext x75
  refine call_insI (s := s3) (v := ⟨some ⟨h.size, 0, none⟩, 1, 1⟩) ?_
  refine ins_go (t := ty_sl_int) (e := ty_int) (z := 1) (bytes := 8) (fo := 142) (fr := fn_slices_rotateRight_int_) und_ints info_i (by decide) (by decide) apart_int (by omega) o75 (by omega) (by omega) r75 rfl (by simp [Value.oneCell']) oneInts (fun a ha => by have := (p.nd.p.blk ha).2.1; omega) fun s7 h8 l8 o8 g8 pl8 => ?_
  rw [show [Value.int IntKind.i64 (k : Int)] = [icell k] from rfl, icell_ins] at o8
  have r58 := g8.row o75 (x75.row' p.r5) (by decide)
  refine St.at1 (o := 2) ⟨_, und_ints⟩ (by kernel_rfl) rfl rfl r58 (by show 2 < 3; decide) fun h' u r' => hk s7 h' ?_
  have z8 := g8.size
  have zu := u.size
  have low : ∀ j, j < h.size → j ≠ k5 → (∀ a, s3.a = some a → j ≠ a.block) → h'[j]? = h[j]? := fun j hj h5 h3 => (u.block j h5).trans ((g8.block j (by omega) h3).trans (x75.block j hj))
  have frm : ∀ j, InAr h ka j → h'[j]? = h[j]? := fun j hj => low j (below_ar p.f.a hj) (fun e => p.sf5.2 (e ▸ hj)) fun a ha e => (p.f3 a ha).2 (e ▸ hj)
  have hka : h'[ka]? = h[ka]? := frm ka (.inl rfl)
  have n13 := ne_row p.r1 p.r5 (by decide)
  have n35 := ne_row p.r3 p.r5 (by decide)
  have lowB : ∀ j, j < B → j ≠ k5 → h'[j]? = h[j]? := fun j hj h5 => low j (by omega) h5 fun a ha => by have := (p.nd.p.blk ha).1; omega
  have ok := ((p.nd.k.ext x75).grown o75 (by decide) g8).updT u r58 (by decide)
  have or := ((p.nd.r.ext x75).grown o75 (by decide) g8).updT u r58 (by decide)
  have op := o8.updT u r58 (by decide)
  refine ⟨⟨(lowB _ (by omega) (by omega)).trans p.f.r, p.f.a.frame frm⟩, p.ax.trans (ArX.frame (by omega) frm fun j hj _ => lowB j (by omega) (by omega)), (lowB _ (by omega) n13).trans p.r1, (lowB _ (by omega) n35).trans p.r3, r', ⟨ok, or, op⟩, fun b hb => ⟨(op.blk hb).2.1, fun hin => ?_⟩, by omega⟩
  have hin := inAr_of hka hin
  rcases pl8 b hb with h9 | h9
  · exact (p.f3 b h9).2 hin
  · have := below_ar p.f.a hin
    omega
/-- what stood of halves stands -/
theorem halves_str {k : Nat} {l r : Int} {m : ByteArray} {a b c : Int} (rk : h[k]? = some (.cells (hcells' l r m a b c).toArray ty_btree_halves (0, 0))) : Cells h ((⟨k, 0, none⟩ : Addr).add 3) (rfcells a b c) := by
  rw [add_off, Nat.zero_add]
  refine Cells.row rk fun i v hv => ?_
  match i, hv with
  | 0, hv => exact hv
  | 1, hv => exact hv
  | 2, hv => exact hv
end
end Go.Dn.W
