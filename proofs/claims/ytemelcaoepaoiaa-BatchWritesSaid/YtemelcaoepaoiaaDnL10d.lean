/- The law of records that are written. -/
import Derived.Test.YtemelcaoepaoiaaDnOwn
import Derived.Test.YtemelcaoepaoiaaDnL10c
set_option linter.unusedVariables false
namespace Go.Dn.W
open Go Go.Dn Go.Proofs

/-! ### what is handed in -/
structure ChsIn (h : Mem) (s : Sl) (l : List Cg) : Prop where
  at_ : ChsAt h s l
  nil : s.a = none → s.cap = 0
  size : l.length * 48 ≤ 140737488351232
  key : ∀ c ∈ l, c.key.size ≤ 140737488351232
  ser : ∀ c ∈ l, c.ser ≤ 18446744073709551615
def RecIn (h : Mem) (s : Sl) (r : Rc) : Prop := ∃ L, ChsIn h s L ∧ r.seq ≤ 18446744073709551615 ∧ r.ms ≤ 18446744073709551615
theorem bytesOf_chg : PG.bytesOf ty_api_Change = 48 := by kernel_rfl
theorem cellsOf_chg : PG.cellsOf ty_api_Change = 5 := by kernel_rfl
theorem cellsOf_chs : PG.cellsOf ty_sl_api_Change = 1 := by kernel_rfl
theorem cellsOf_move : PG.cellsOf ty_api_Move = 4 := by kernel_rfl
theorem cellsOf_rec : PG.cellsOf ty_api_Record = 7 := by kernel_rfl
theorem fields_chg : fieldsOf ty_api_Change = [(ty_string, 0), (ty_api_Ref, 1), (ty_bool, 4)] := by kernel_rfl
theorem fields_move : fieldsOf ty_api_Move = [(ty_uint64, 0), (ty_int, 1), (ty_int, 2), (ty_int, 3)] := by kernel_rfl
theorem fields_rec : fieldsOf ty_api_Record = [(ty_int, 0), (ty_uint64, 1), (ty_sl_api_Change, 2), (ty_api_Move, 3)] := by kernel_rfl
section
variable {H : Type} {enc : TypeId × Value → H} {w : World} {R : Nat}
theorem arg_chg {cs : List Value} (a : Arg enc PG w ty_api_Change cs R) : ∃ c : Cg, cs = cgcells c ∧ c.key.size ≤ R ∧ c.ser ≤ 18446744073709551615 := by
  obtain ⟨fs, hu, hf⟩ := fields_spec fields_chg (by simp)
  obtain ⟨hl, hr⟩ := a.struct hu
  obtain ⟨f0, hf0, ht0, ho0⟩ := hf 0 _ _ rfl
  obtain ⟨f1, hf1, ht1, ho1⟩ := hf 1 _ _ rfl
  obtain ⟨f2, hf2, ht2, ho2⟩ := hf 2 _ _ rfl
  have a0 := hr 0 f0 hf0
  have a1 := hr 1 f1 hf1
  have a2 := hr 2 f2 hf2
  rw [ht0, ho0, cellsOf_str] at a0
  rw [ht1, ho1, cellsOf_ref] at a1
  rw [ht2, ho2, cellsOf_bool] at a2
  rw [cellsOf_chg] at hl
  obtain ⟨k, hk, hks⟩ := a0.str und_str
  obtain ⟨r, hr', hr1⟩ := arg_ref a1
  obtain ⟨d, hd⟩ := a2.bool und_bool
  refine ⟨⟨k, r.1, r.2.1, r.2.2, d⟩, ?_, hks, hr1⟩
  match cs, hl with
  | [c0, c1, c2, c3, c4], _ => simp [rfcells] at hk hr' hd; rw [hk, hr'.1, hr'.2.1, hr'.2.2, hd]; rfl
theorem arg_chs {cs : List Value} (a : Arg enc PG w ty_sl_api_Change cs R) (hR : R ≤ 140737488351232) : ∃ (s : Sl) (l : List Cg), cs = [sval s] ∧ ChsIn w.heap s l := by
  obtain ⟨s, rfl, hn, hl, hb, _, he⟩ := a.slice und_changes
  rw [bytesOf_chg] at hb
  rw [cellsOf_chg] at he
  obtain ⟨l, hll, hr⟩ := list_of (n := s.len) (R := fun i (c : Cg) => ∃ ad, s.a = some ad ∧ Cells w.heap (ad.add (i * 5)) (cgcells c) ∧ c.key.size ≤ R ∧ c.ser ≤ 18446744073709551615) fun i hi => by
    obtain ⟨p, ecs, hp, hc, _, ha⟩ := he i (by omega)
    obtain ⟨r, rfl, h1, h2⟩ := arg_chg ha
    exact ⟨r, p, hp, hc, h1, h2⟩
  have mem : ∀ c ∈ l, c.key.size ≤ R ∧ c.ser ≤ 18446744073709551615 := fun c hc => by
    obtain ⟨i, hi⟩ := List.getElem?_of_mem hc
    obtain ⟨_, _, _, h1, h2⟩ := hr i c hi
    exact ⟨h1, h2⟩
  exact ⟨s, l, rfl, ⟨hll.symm, fun i r hi => let ⟨ad, h1, h2, _⟩ := hr i r hi; ⟨ad, h1, h2⟩⟩, fun h => (hn h).2, by rw [hll]; omega, fun c hc => Nat.le_trans (mem c hc).1 hR, fun c hc => (mem c hc).2⟩
theorem arg_move {cs : List Value} (a : Arg enc PG w ty_api_Move cs R) : ∃ x y z u : Int, cs = [.int .u64 x, .int .i64 y, .int .i64 z, .int .i64 u] ∧ x ≤ 18446744073709551615 := by
  obtain ⟨fs, hu, hf⟩ := fields_spec fields_move (by simp)
  obtain ⟨hl, hr⟩ := a.struct hu
  obtain ⟨f0, hf0, ht0, ho0⟩ := hf 0 _ _ rfl
  obtain ⟨f1, hf1, ht1, ho1⟩ := hf 1 _ _ rfl
  obtain ⟨f2, hf2, ht2, ho2⟩ := hf 2 _ _ rfl
  obtain ⟨f3, hf3, ht3, ho3⟩ := hf 3 _ _ rfl
  have a0 := hr 0 f0 hf0
  have a1 := hr 1 f1 hf1
  have a2 := hr 2 f2 hf2
  have a3 := hr 3 f3 hf3
  rw [ht0, ho0, cellsOf_u] at a0
  rw [ht1, ho1, cellsOf_i] at a1
  rw [ht2, ho2, cellsOf_i] at a2
  rw [ht3, ho3, cellsOf_i] at a3
  rw [cellsOf_move] at hl
  obtain ⟨x, hx, hx1⟩ := a0.int und_u
  obtain ⟨y, hy, _⟩ := a1.int und_i
  obtain ⟨z, hz, _⟩ := a2.int und_i
  obtain ⟨u, hu', _⟩ := a3.int und_i
  have hm : IntKind.u64.max = 18446744073709551615 := by decide
  rw [hm] at hx1
  refine ⟨x, y, z, u, ?_, hx1.2⟩
  match cs, hl with
  | [c0, c1, c2, c3], _ => simp at hx hy hz hu'; rw [hx, hy, hz, hu']
theorem in_record {v : Value} {base : Nat} (ok : Value.okWide PG w .any base ty_api_Record v) (a : Arg enc PG w ty_api_Record v.cells.toList R) (hR : R ≤ 140737488351232 := by decide) :
    ∃ (s : Sl) (r : Rc), v = .agg #[.int .i64 r.kind, .int .u64 r.seq, sval s, .int .u64 r.ms, .int .i64 r.mf, .int .i64 r.mt, .int .i64 r.mn] ∧ RecIn w.heap s r := by
  obtain ⟨fs, hu, hf⟩ := fields_spec fields_rec (by simp)
  unfold Value.okWide at ok
  rw [hu] at ok
  obtain ⟨cs, rfl, _⟩ := ok
  have a : Arg enc PG w ty_api_Record cs.toList R := a
  obtain ⟨hl, hr⟩ := a.struct hu
  obtain ⟨f0, hf0, ht0, ho0⟩ := hf 0 _ _ rfl
  obtain ⟨f1, hf1, ht1, ho1⟩ := hf 1 _ _ rfl
  obtain ⟨f2, hf2, ht2, ho2⟩ := hf 2 _ _ rfl
  obtain ⟨f3, hf3, ht3, ho3⟩ := hf 3 _ _ rfl
  have a0 := hr 0 f0 hf0
  have a1 := hr 1 f1 hf1
  have a2 := hr 2 f2 hf2
  have a3 := hr 3 f3 hf3
  rw [ht0, ho0, cellsOf_i] at a0
  rw [ht1, ho1, cellsOf_u] at a1
  rw [ht2, ho2, cellsOf_chs] at a2
  rw [ht3, ho3, cellsOf_move] at a3
  rw [cellsOf_rec] at hl
  obtain ⟨k, hk, _⟩ := a0.int und_i
  obtain ⟨q, hq, hq1⟩ := a1.int und_u
  obtain ⟨s, L, hs, hL⟩ := arg_chs a2 hR
  obtain ⟨x, y, z, u, hm, hx⟩ := arg_move a3
  have hmx : IntKind.u64.max = 18446744073709551615 := by decide
  rw [hmx] at hq1
  refine ⟨s, ⟨k, q, x, y, z, u⟩, ?_, L, hL, hq1.2, hx⟩
  have : cs = #[.int .i64 k, .int .u64 q, sval s, .int .u64 x, .int .i64 y, .int .i64 z, .int .i64 u] := by
    apply Array.ext'
    generalize cs.toList = c at *
    match c, hl with
    | [c0, c1, c2, c3, c4, c5, c6], _ => simp at hk hq hs hm; rw [hk, hq, hs, hm.1, hm.2.1, hm.2.2.1, hm.2.2.2]
  rw [this]
end

open Classical in
noncomputable def wb (r : Rc) (l : List Cg) : List UInt8 := if RecOk r l then recBytes r l else []
open Classical in
noncomputable def wn (r : Rc) (l : List Cg) : Int := if RecOk r l then 0 else 11
open Classical in
noncomputable def wm (r : Rc) (l : List Cg) : Bool := if RecOk r l then true else false

section
variable {h : Mem}
theorem ct_Write2 {B : Nat} {s : Sl} {r : Rc} {l : List Cg} {Q : Sl → Int → Mem → Prop} (o : OwnL ty_api_Change 5 ECg h B B s l) (hl : l.length ≤ 140737488355328) (hs : r.seq ≤ 18446744073709551615) (hm : r.ms ≤ 18446744073709551615) (ht : ∀ c ∈ l, c.ser ≤ 18446744073709551615)
    (q : ∀ s' h', Ext h.size h h' → BytesSl h' s' (wb r l) → Q s' (wn r l) h') :
    CallF PG fn_batch_Write [.agg #[.int .i64 r.kind, .int .u64 r.seq, sval s, .int .u64 r.ms, .int .i64 r.mf, .int .i64 r.mt, .int .i64 r.mn]] (.tup [.leaf .sl, .leaf (.int .i64)]) h Q := by
  unfold wb wn at q
  refine ct_Write' (B' := 0) o hl hs hm ht (fun ok s' h' x' o' => ?_) fun nok h' x' => ?_
  · have := q s' h' x'; rw [if_pos ok, if_pos ok] at this; exact this o'.bytes
  · have := q ⟨none, 0, 0⟩ h' x'; rw [if_neg nok, if_neg nok] at this; exact this (BytesSl.isNil h')
theorem ct_ref_Write2 {s : Sl} {r : Rc} {l : List Cg} {Q : Sl → Int → Mem → Prop} (a : ChsAt h s l) (hl : l.length ≤ 140737488355328) (hkk : ∀ c ∈ l, c.key.size ≤ 140737488351232) (hs : r.seq ≤ 18446744073709551615) (hm : r.ms ≤ 18446744073709551615) (ht : ∀ c ∈ l, c.ser ≤ 18446744073709551615)
    (q : ∀ s' h', Ext h.size h h' → BytesSl h' s' (wb r l) → Q s' (wn r l) h') :
    CallF PG fn_dunnageref10_Write [.agg #[.int .i64 r.kind, .int .u64 r.seq, sval s, .int .u64 r.ms, .int .i64 r.mf, .int .i64 r.mt, .int .i64 r.mn]] (.tup [.leaf .sl, .leaf (.int .i64)]) h Q := by
  unfold wb wn at q
  refine ct_ref10_Write a hl hkk hs hm ht (fun ok s' h' x' o' => ?_) fun nok h' x' => ?_
  · have := q s' h' x'; rw [if_pos ok, if_pos ok] at this; exact this o'.bytes
  · have := q ⟨none, 0, 0⟩ h' x'; rw [if_neg nok, if_neg nok] at this; exact this (BytesSl.isNil h')

theorem law_BatchWrites {r : Rc} {s : Sl} {Q : Bool → Mem → Prop} (hr : RecIn h s r) (q : ∀ h', Ext h.size h h' → Q true h') : wp_dunnagelaw10_BatchWrites r.kind r.seq s r.ms r.mf r.mt r.mn h Q := by
  obtain ⟨L, ci, hs, hm⟩ := hr
  have hsz := ci.size
  obtain ⟨tr, htr⟩ := und_rec
  refine New.go fun h2 _ x2 z2 r2 => ?_
  have r2 : h2[h.size]? = some (.cells (rcs r s).toArray ty_api_Record (0, 0)) := r2
  refine Ld.rec (s := s) (Cells.whole (cs := rcs r s) r2) (New.go fun h11 _ x11 z11 r11 => ?_)
  refine St.row htr (vs := rcs r s) rfl sz_rec (by intro u hu; simp only [rcs, rcells, List.mem_cons, List.not_mem_nil, or_false] at hu; rcases hu with rfl | rfl | rfl | rfl | rfl | rfl | rfl <;> rfl) r11 (show 7 ≤ 7 by decide) fun h12 u12 r12 => ?_
  have r12 : h12[h2.size]? = some (.cells (rcs r s).toArray ty_api_Record (0, 0)) := r12
  have z12 := u12.size
  have x212 : Ext h2.size h2 h12 := x11.trans (u12.ext (Nat.le_refl _))
  have k12 := (x212.block h.size (by omega)).trans r2
  have x012 := x2.after x212
  refine Ld.chs (v := s) (by rw [add_off]; exact row_cell k12 rfl) ?_
  refine ct_Own (f := ⟨⟨#[55, 49]⟩, 0, 0, 0, false⟩) (ci.at_.ext x012) ci.nil (by omega) fun s14 h15 x15 o15 l14 c14 => ?_
  have z15 := x15.size
  have k15 := (x15.block h.size (by omega)).trans k12
  have r15 := (x15.block h2.size (by omega)).trans r12
  rw [add_off]
  refine St.row und_changes (vs := [sval s14]) rfl (by kernel_rfl) (by intro u hu; simp only [List.mem_cons, List.not_mem_nil, or_false] at hu; subst hu; rfl) r15 (show 3 ≤ 7 by decide) fun h16 u16 r16 => ?_
  have r16 : h16[h2.size]? = some (.cells (rcs r s14).toArray ty_api_Record (0, 0)) := r16
  have z16 := u16.size
  have k16 := (u16.block h.size (by omega)).trans k15
  have x016 : Ext h.size h h16 := (x012.after x15).trans (u16.ext (by omega))
  have o16 : OwnL ty_api_Change 5 ECg h16 h12.size h12.size ⟨s14.a, L.length + 3, s14.cap⟩ (L ++ fill3 ⟨⟨#[55, 49]⟩, 0, 0, 0, false⟩) := by
    obtain ⟨css, ow, hh⟩ := o15
    exact ⟨css, Owns.kept ow (fun a ha => u16.block _ (by have := (Owns.blk ow ha).1; omega)), ⟨hh.len, hh.width, hh.one, hh.is⟩⟩
  have p16 : OwnL ty_api_Change 5 ECg h16 h12.size h12.size s14 L := OwnL.prefixC o16 l14
  refine Ld.rec (s := s14) (Cells.whole (cs := rcs r s14) r16) (ct_Write2 p16 (by omega) hs hm ci.ser fun s24 h26 x26 b26 => ?_)
  have k26 := (x26.block h.size (by omega)).trans k16
  have a16 := ci.at_.ext x016
  refine Ld.rec (s := s) (Cells.whole (cs := rcs r s) k26) (ct_ref_Write2 (a16.ext x26) (by omega) ci.key hs hm ci.ser fun s34 h36 x36 b36 => ct_awake10 fun h38 x38 => Br.t rfl ?_)
  have x1638 := x26.after (x36.after x38)
  have k38 := (x1638.block h.size (by omega)).trans k16
  have r38 := (x1638.block h2.size (by omega)).trans r16
  refine Ld.rec (s := s14) (Cells.whole (cs := rcs r s14) r38) (Ld.rec (s := s) (Cells.whole (cs := rcs r s) k38) ?_)
  have mays : ∀ {Q : Bool → Mem → Prop}, (∀ h', Ext h38.size h38 h' → Q (wm r L) h') → CallF PG fn_batch_May [.agg #[.int .i64 r.kind, .int .u64 r.seq, sval s14, .int .u64 r.ms, .int .i64 r.mf, .int .i64 r.mt, .int .i64 r.mn]] (.one (.leaf .bool)) h38 Q := fun q => by
    unfold wm at q
    exact ct_May' ((p16.ext ECg.stab x1638).chs) (by omega) (fun ok h' x' => by have := q h' x'; rwa [if_pos ok] at this) fun nok h' x' => by have := q h' x'; rwa [if_neg nok] at this
  refine mays fun h54 x54 => ?_
  have x1654 := x1638.after x54
  have k54 := (x54.block h.size (by have := x1638.size; omega)).trans k38
  refine ⟨Ld.rec (s := s) (Cells.whole (cs := rcs r s) k54) rfl, ?_⟩
  have rmay : ∀ {Q : Bool → Mem → Prop}, (∀ h', Ext h54.size h54 h' → Q (wm r L) h') → CallF PG fn_dunnageref10_May [.agg #[.int .i64 r.kind, .int .u64 r.seq, sval s, .int .u64 r.ms, .int .i64 r.mf, .int .i64 r.mt, .int .i64 r.mn]] (.one (.leaf .bool)) h54 Q := fun q => by
    unfold wm at q
    exact ct_ref10_May (a16.ext x1654) (by omega) ci.key (fun ok h' x' => by have := q h' x'; rwa [if_pos ok] at this) fun nok h' x' => by have := q h' x'; rwa [if_neg nok] at this
  refine rmay fun h63 x63 => Br.t (by simp) ?_
  have x1663 := x1654.after x63
  have x3663 := x38.after (x54.after x63)
  refine ct_Bytes (b26.ext (x36.after x3663)) (b36.ext x3663) (Br.t (by simp) (Br.t (by simp) ?_))
  have k63 := (x1663.block h.size (by omega)).trans k16
  have r63 := (x1663.block h2.size (by omega)).trans r16
  refine Ld.chs (v := s14) (row_cell r63 rfl) (Ld.chs (v := s) (by rw [add_off]; exact row_cell k63 rfl) ?_)
  refine ct_Kept (f := ⟨⟨#[55, 49]⟩, 0, 0, 0, false⟩) ((p16.ext ECg.stab x1663).chs) (a16.ext x1663) ((o16.ext ECg.stab x1663).chs) c14 (by omega) fun h69 x69 => q _ (x016.after (x1663.after x69))
end
end Go.Dn.W
