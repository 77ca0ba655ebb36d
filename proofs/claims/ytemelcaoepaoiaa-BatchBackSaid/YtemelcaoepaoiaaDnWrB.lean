/- Records of batches are written. -/
import Derived.Test.YtemelcaoepaoiaaDnChg
set_option linter.unusedVariables false
namespace Go.Dn.W
open Go Go.Dn Go.Proofs

def chB (c : Chg) : List UInt8 := (varB c.key.size ++ c.key.toList) ++ if c.del then [1] else [0] ++ [c.ser, c.pos, c.len].flatMap varB
def recB (seq : Nat) (l : List Chg) : List UInt8 := [1] ++ [seq, l.length].flatMap varB ++ l.flatMap chB
theorem chB_length {c : Chg} (ok : c.Ok) : (chB c).length ≤ 105 := by
  have h1 := pMay_size ok.key
  have h2 := varB_le (n := c.key.size) (by omega)
  unfold chB
  have h3 : c.key.toList.length = c.key.size := length_toList _
  cases hd : c.del with
  | true => simp only [List.length_append, if_true, List.length_cons, List.length_nil]; omega
  | false =>
    obtain ⟨_, e2, e3, e4⟩ := ok.ref hd
    have a1 := varB_le e2
    have a2 := varB_le (n := c.pos) (by omega)
    have a3 := varB_le (n := c.len) (by omega)
    simp only [List.length_append, Bool.false_eq_true, if_false, List.length_cons, List.length_nil, List.flatMap_cons, List.flatMap_nil]
    omega
theorem chB_sum {l : List Chg} (ok : ∀ c ∈ l, c.Ok) : (l.flatMap chB).length ≤ l.length * 105 := by
  induction l with
  | nil => simp
  | cons c l ih =>
    have := ih fun c hc => ok c (by simp [hc])
    have := chB_length (ok c (by simp))
    simp only [List.flatMap_cons, List.length_append, List.length_cons]
    omega

section
variable {h : Mem}
theorem ct_Text {s : Sl} {l : List UInt8} {Q : Sl → Mem → Prop} (b : BytesSl h s l) (hl : l.length ≤ 1000000) (q : ∀ s' h', Ext h.size h h' → OwnB h' h.size ty_uint8 s' (varB l.length ++ l) → Q s' h') : CallF PG fn_word_Text [sval s] (.one (.leaf .sl)) h Q := by
  refine call_word_Text ?_
  unfold wp_word_Text
  have e : IntKind.u64.wrap (s.len : Int) = (l.length : Int) := by rw [b.len, u64_eq (by omega)]
  rw [e]
  have hv := varB_le (n := l.length) (by omega)
  refine ct_Var (by omega) fun s1 h2 x2 o2 => ?_
  refine append_bytes x2.size o2 (b.ext x2) (by omega) fun s3 h4 o4 g => q _ _ ?_ o4
  exact x2.trans (Owns.grownExt o2 x2.size g)

theorem OwnL.penKeep {kp B' B : Nat} {s sp : Sl} {c1 c2 : Value} {l : List Chg} {h' : Mem} (x : OwnL ty_api_Change 5 ECh h B' B s l) (p : PenAt h kp sp c1 c2) (k : PenKeep kp h h') : OwnL ty_api_Change 5 ECh h' B' B s l := by
  obtain ⟨css, o, hh⟩ := x
  refine ⟨css, Owns.kept o fun a ha => ?_, ⟨hh.len, hh.width, hh.one, hh.is⟩⟩
  obtain ⟨_, _, c, hc⟩ := Owns.blk o ha
  rw [hc]
  refine k.block _ c _ _ (by decide) (fun e => ?_) hc
  rw [e] at hc
  exact absurd (p.symm.trans hc) (by intro e; cases e)

theorem pen_byte {kp B : Nat} {s : Sl} {x : Value} {u : UInt8} {c1 c2 : Value} {xs : List UInt8} {K : Mem → Prop} (hx : x = bcell u) (hB : B ≤ kp) (p : PenAt h kp s c1 c2) (o : OwnB h B ty_uint8 s xs) (hs : xs.length + 1 ≤ 140737488355328)
    (hk : ∀ s' h', PenAt h' kp s' c1 c2 → OwnB h' B ty_uint8 s' (xs ++ [u]) → Ext B h h' → PenKeep kp h h' → K h') :
    New (Obj.cells #[x] ty_uint8) h fun (k39 : Nat) (h40 : Mem) =>
      PrimT PG (Builtin.append_ #[ty_sl_uint8, ty_sl_uint8] ty_sl_uint8 #[Value.slice s.a s.len s.cap, Value.slice (some (Addr.mk k39 0 none)) 1 1]) (Kd.one (Cmp.leaf Leaf.sl)) h40
        fun (s13 : Sl) (h14 : Mem) => St PG ty_sl_uint8 ⟨kp, 0, none⟩ (Value.slice s13.a s13.len s13.cap) h14 K := by
  subst hx
  have hkp := (Array.getElem?_eq_some_iff.1 p).1
  refine New.go fun h1 _ x1 z1 r1 => pen_append (v := ⟨some ⟨h.size, 0, none⟩, 1, 1⟩) hB (p.ext x1) (Owns.ext o x1) (one_byte r1) hs fun s' h' p' o' x' k' => hk s' h' p' o' ((x1.less (by omega)).trans x') ((PenKeep.ext x1).trans k')

/-- the changes t stand as long as the blocks before B do, and what is no pen -/
theorem ct_pen_batch_at {kp B seq : Nat} {s t : Sl} {c1 c2 : Value} {xs : List UInt8} {l : List Chg} {k m0 m1 m2 m3 : Int} {Q : Mem → Prop} (hB : B ≤ kp) (p : PenAt h kp s c1 c2) (o : OwnB h B ty_uint8 s xs) (tl : t.len = l.length) (rd : ∀ H, Ext B h H → PenKeep kp h H → ∀ (i : Nat) (c : Chg), l[i]? = some c → ∃ a, t.a = some a ∧ Cells H (a.add (i * 5)) (chcells c)) (ok : ∀ c ∈ l, c.Ok) (h32 : l.length ≤ 32) (hq : seq ≤ 18446744073709551615) (hs : xs.length ≤ 1000)
    (q : ∀ s' h', PenAt h' kp s' c1 c2 → OwnB h' B ty_uint8 s' (xs ++ [seq, l.length].flatMap varB ++ l.flatMap chB) → Ext B h h' → PenKeep kp h h' → Q h') :
    CallF PG fn_batch_pen_batch [.pointer (some ⟨kp, 0, none⟩), .agg #[.int .i64 k, .int .u64 (seq : Int), sval t, .int .u64 m0, .int .i64 m1, .int .i64 m2, .int .i64 m3]] (.tup []) h Q := by
  have hkp := (Array.getElem?_eq_some_iff.1 p).1
  refine call_batch_pen_batch (New.go fun g1 _ x1 z1 r1 => ?_)
  refine Ld.u (n := (seq : Int)) (by rw [add_off]; exact row_cell r1 rfl) (Ld.chs (v := t) (by rw [add_off]; exact row_cell r1 rfl) ?_)
  rw [u64_eq (n := t.len) (by omega)]
  refine New.go fun g2 _ x2 z2 r2 => ?_
  have x : Ext h.size h g2 := x1.after x2
  have r2' : g2[h.size]? = _ := (x2.block h.size (by omega)).trans r1
  refine ct_pen_nums (ns := [seq, t.len]) hB (p.ext x) (Owns.ext o x) (by decide) (by omega) r2 rfl (by intro m hm; simp only [List.mem_cons, List.not_mem_nil, or_false] at hm; rcases hm with rfl | rfl <;> omega) (by simp; omega) fun s7 h7 p7 o7 x7 k7 => ?_
  have r7 := k7.block h.size _ _ _ (by decide) (by omega) r2'
  refine Ld.chs (v := t) (by rw [add_off]; exact row_cell r7 rfl) ?_
  rw [tl] at o7
  have kk7 : PenKeep kp h h7 := (PenKeep.ext x).trans k7
  have hx7 : (xs ++ [seq, l.length].flatMap varB).length ≤ 1020 := by
    have a1 := varB_le hq
    have a2 := varB_le (n := l.length) (by omega)
    simp only [List.length_append, List.flatMap_cons, List.flatMap_nil, List.length_nil]
    omega
  refine ⟨fun n h' => ∃ (i : Nat) (s' : Sl), n = (i : Int) ∧ i ≤ l.length ∧ PenAt h' kp s' c1 c2 ∧ OwnB h' B ty_uint8 s' (xs ++ [seq, l.length].flatMap varB ++ (l.take i).flatMap chB) ∧ Ext B h h' ∧ PenKeep kp h h', fun n _ => l.length - n.toNat,
    ⟨0, s7, rfl, Nat.zero_le _, p7, by simpa using o7, (x.less (by omega)).trans x7, kk7⟩, ?_⟩
  rintro _ n h13 ⟨i, s', rfl, hi, p13, o13, x13, k13⟩
  refine Br.mk (fun e1 => ?_) fun e1 => ?_
  · simp only [decide_eq_true_eq] at e1
    rw [tl] at e1
    obtain ⟨c, hc⟩ : ∃ c, l[i]? = some c := ⟨_, List.getElem?_eq_getElem (by omega)⟩
    have okc := ok c (List.mem_of_getElem? hc)
    have hks := pMay_size okc.key
    have hsum := chB_sum (l := l.take i) fun c hc => ok c (List.mem_of_mem_take hc)
    rw [List.length_take, Nat.min_eq_left hi] at hsum
    obtain ⟨ad, ha, hcc⟩ := rd h13 x13 k13 i c hc
    have hB13 : kp < h13.size := (Array.getElem?_eq_some_iff.1 p13).1
    refine Idx.mk ha (by omega) ?_
    rw [nat_mul]
    refine Ld.chg hcc (New.go fun h21 _ x21 z21 r21 => St.chg r21 rfl fun h22 u22 r22 => ?_)
    have x22 : Ext h13.size h13 h22 := x21.trans (u22.ext (Nat.le_refl _))
    have z22 := u22.size
    have p22 := p13.ext x22
    show Ld _ _ _ _ _ _
    refine Ld.bytes (row_cell p22 rfl) (Ld.key (row_cell r22 rfl) (prim_bytes (e := ty_uint8) (by kernel_rfl) (by kernel_rfl) (by kernel_rfl) fun cap ob hcap hob => ?_))
    generalize h27e : h22.push ob = h27
    have x27 : Ext h22.size h22 h27 := h27e ▸ Ext.push _ _ (Nat.le_refl _)
    have b27 : BytesSl h27 ⟨some ⟨h22.size, 0, none⟩, c.key.size, cap⟩ c.key.toList := by
      refine ⟨(length_toList _).symm, fun j b hb => ?_, fun hn => by cases hn⟩
      subst hob
      rw [← h27e, add_off]
      exact row_cell (push_get_size _ _) (by rw [Nat.zero_add]; exact bytesRow_get _ _ hb)
    have hkl : c.key.toList.length = c.key.size := length_toList _
    refine ⟨Ld.bytes (row_cell (p22.ext x27) rfl) rfl, ct_Text b27 (by omega) fun s29 h30 x30 o30 => ?_⟩
    have x2230 : Ext h22.size h22 h30 := x27.trans (x30.less x27.size)
    have x1330 : Ext h13.size h13 h30 := x22.trans (x2230.less x22.size)
    have p30 := p13.ext x1330
    refine ⟨Ld.bytes (row_cell p30 rfl) rfl, ?_⟩
    have hvk := varB_le (n := c.key.toList.length) (by omega)
    refine pen_append hB p30 (Owns.ext o13 x1330) o30.bytes (by simp only [List.length_append] at hx7 hsum ⊢; omega) fun s32 h35 p35 o35 x35 k35 => ?_
    have k1335 : PenKeep kp h13 h35 := (PenKeep.ext x1330).trans k35
    have x1335 : Ext B h13 h35 := (x1330.less (by omega)).trans x35
    have r35 := k35.block h13.size _ _ _ (by decide) (by omega) ((x2230.block h13.size (by omega)).trans r22)
    have cf : cellAt h35 ((⟨h13.size, 0, none⟩ : Addr).add 4) = some (.bool c.del) := by rw [add_off]; exact row_cell r35 rfl
    have fin : ∀ s' h', PenAt h' kp s' c1 c2 → OwnB h' B ty_uint8 s' ((xs ++ [seq, l.length].flatMap varB ++ (l.take i).flatMap chB) ++ chB c) → Ext B h35 h' → PenKeep kp h35 h' →
        (fun n h' => ∃ (i : Nat) (s' : Sl), n = (i : Int) ∧ i ≤ l.length ∧ PenAt h' kp s' c1 c2 ∧ OwnB h' B ty_uint8 s' (xs ++ [seq, l.length].flatMap varB ++ (l.take i).flatMap chB) ∧ Ext B h h' ∧ PenKeep kp h h') (IntKind.i64.wrap ((i : Int) + 1)) h' ∧ (fun (n : Int) (_ : Mem) => l.length - n.toNat) (IntKind.i64.wrap ((i : Int) + 1)) h' < (fun (n : Int) (_ : Mem) => l.length - n.toNat) (i : Int) h13 := fun s' h' p' o' x' k' => by
      rw [wrap_succ (by omega)]
      refine ⟨⟨i + 1, s', rfl, by omega, p', ?_, x13.trans (x1335.trans x'), k13.trans (k1335.trans k')⟩, by simp only [Int.toNat_natCast]; omega⟩
      rw [List.take_add_one, hc, List.flatMap_append, ← List.append_assoc]
      simpa using o'
    have hb35 : (xs ++ [seq, l.length].flatMap varB ++ (l.take i).flatMap chB ++ (varB c.key.toList.length ++ c.key.toList)).length ≤ 100000 := by
      simp only [List.length_append] at hx7 hsum ⊢; omega
    refine Ld.flag cf (Br.mk (fun e2 => ?_) fun e2 => ?_)
    · show Ld _ _ _ _ _ _
      refine Ld.bytes (row_cell p35 rfl) (pen_byte (u := 1) rfl hB p35 o35 (by omega) fun s' h' p' o' x' k' => fin s' h' p' ?_ x' k')
      have e : chB c = (varB c.key.toList.length ++ c.key.toList) ++ [1] := by unfold chB; rw [e2, hkl]; rfl
      rw [e, ← List.append_assoc]; exact o'
    · show Ld _ _ _ _ _ _
      obtain ⟨e3, e4, e5, e6⟩ := okc.ref e2
      refine Ld.bytes (row_cell p35 rfl) (pen_byte (u := 0) rfl hB p35 o35 (by omega) fun s52 h52 p52 o52 x52 k52 => ?_)
      have r52 := k52.block h13.size _ _ _ (by decide) (by omega) r35
      refine Ld.u (n := (c.ser : Int)) (by rw [add_off]; exact row_cell r52 rfl) (Ld.i (n := (c.pos : Int)) (by rw [add_off, add_off]; exact row_cell r52 rfl) (Ld.i (n := (c.len : Int)) (by rw [add_off, add_off]; exact row_cell r52 rfl) ?_))
      rw [u64_eq (n := c.pos) (by omega), u64_eq (n := c.len) (by omega)]
      refine New.go fun h57 _ x57 z57 r57 => ?_
      have hkp52 : kp < h52.size := (Array.getElem?_eq_some_iff.1 p52).1
      refine ct_pen_nums (ns := [c.ser, c.pos, c.len]) hB (p52.ext x57) (Owns.ext o52 x57) (by decide) (by omega) r57 rfl (by intro m hm; simp only [List.mem_cons, List.not_mem_nil, or_false] at hm; rcases hm with rfl | rfl | rfl <;> omega) (by rw [List.length_append]; show _ + 1 + 3 * 10 ≤ _; omega) fun s' h' p' o' x' k' =>
        fin s' h' p' ?_ (x52.trans ((x57.less (by omega)).trans x')) (k52.trans ((PenKeep.ext x57).trans k'))
      have e : chB c = (varB c.key.toList.length ++ c.key.toList) ++ ([0] ++ [c.ser, c.pos, c.len].flatMap varB) := by unfold chB; rw [e2, hkl]; rfl
      rw [e, ← List.append_assoc, ← List.append_assoc]; exact o'
  · simp only [decide_eq_false_iff_not] at e1
    rw [tl] at e1
    have : i = l.length := by omega
    rw [this, List.take_length] at o13
    exact q _ _ p13 o13 x13 k13

theorem ct_pen_batch {kp B Bc seq : Nat} {s t : Sl} {c1 c2 : Value} {xs : List UInt8} {l : List Chg} {k m0 m1 m2 m3 : Int} {Q : Mem → Prop} (hB : B ≤ kp) (p : PenAt h kp s c1 c2) (o : OwnB h B ty_uint8 s xs) (oc : OwnC h Bc t l) (ok : ∀ c ∈ l, c.Ok) (h32 : l.length ≤ 32) (hq : seq ≤ 18446744073709551615) (hs : xs.length ≤ 1000)
    (q : ∀ s' h', PenAt h' kp s' c1 c2 → OwnB h' B ty_uint8 s' (xs ++ [seq, l.length].flatMap varB ++ l.flatMap chB) → Ext B h h' → PenKeep kp h h' → Q h') :
    CallF PG fn_batch_pen_batch [.pointer (some ⟨kp, 0, none⟩), .agg #[.int .i64 k, .int .u64 (seq : Int), sval t, .int .u64 m0, .int .i64 m1, .int .i64 m2, .int .i64 m3]] (.tup []) h Q :=
  ct_pen_batch_at hB p o (oc.len (by decide)) (fun H _ kH i c hc => (OwnL.penKeep oc p kH).chg hc) ok h32 hq hs q

theorem pick1 {a b c : Value} {K : Value → Prop} (hk : K b) : PureT PG (Instr.index ty_3_func_ptr_batch_pen_api_Record (.agg #[a, b, c]) (.int .i64 1)) (.one (.leaf .raw)) K :=
  ⟨b, fun w => by kernel_rfl, [b], rfl, b, .raw _, hk⟩
theorem ct_Write_batch {B seq : Nat} {t : Sl} {l : List Chg} {Q : Sl → Int → Mem → Prop} (oc : OwnC h B t l) (ok : ∀ c ∈ l, c.Ok) (r : RisesC l) (h0 : 1 ≤ l.length) (h32 : l.length ≤ 32) (hq1 : 1 ≤ seq) (hq : seq ≤ 18446744073709551615)
    (q : ∀ s' h', Ext h.size h h' → OwnB h' h.size ty_uint8 s' (recB seq l) → Q s' 0 h') :
    CallF PG fn_batch_Write [.agg #[.int .i64 1, .int .u64 (seq : Int), sval t, .int .u64 0, .int .i64 0, .int .i64 0, .int .i64 0]] (.tup [.leaf .sl, .leaf (.int .i64)]) h Q := by
  refine call_batch_Write (r_0 := 1) (r_1 := seq) (r_2 := t) (r_3 := 0) (New.go fun g1 _ x1 z1 r1 => ?_)
  refine Ld.rec (s := t) (Cells.whole (cs := rcells 1 seq t 0 0 0 0) r1) (ct_May_batch (oc.ext ECh.stab x1) ok r h0 h32 hq1 fun g2 x2 => Br.f rfl ?_)
  have r2 := (x2.block h.size (by omega)).trans r1
  refine Ld.i (n := 1) (row_cell r2 rfl) (New.go fun g3 _ x3 z3 r3 => New.go fun g4 _ x4 z4 r4 => ?_)
  have z2 := x2.size
  have x24 := x3.after x4
  have r4' := (x24.block h.size (by omega)).trans r2
  refine Ld.i (n := 1) (row_cell r4' rfl) (Ld.rec (s := t) (Cells.whole (cs := rcells 1 seq t 0 0 0 0) r4') (ct_writers fun g5 x5 => ?_))
  have r5 := (x5.block h.size (by omega)).trans r4'
  refine ⟨Ld.rec (s := t) (Cells.whole (cs := rcells 1 seq t 0 0 0 0) r5) rfl, Ld.i (n := 1) (row_cell r5 rfl) rfl, pick1 (callV_fn ?_)⟩
  have r35 : g5[g2.size]? = some (.cells #[bcell 1] ty_uint8 (0, 0)) := ((x4.after x5).block g2.size (by omega)).trans r3
  have z5 := x5.size
  have p5 : PenAt g5 g3.size ⟨some ⟨g2.size, 0, none⟩, 1, 1⟩ (.int .i64 0) (.int .i64 0) := (x5.block g3.size (by omega)).trans r4
  have o5 : OwnB g5 h.size ty_uint8 ⟨some ⟨g2.size, 0, none⟩, 1, 1⟩ [1] := ⟨rfl, .inr ⟨g2.size, 1, _, rfl, by omega, r35, Nat.le_refl _, by decide, rfl, rfl⟩⟩
  have xx : Ext h.size h g5 := x1.trans ((x2.after (x24.after x5)).less (by omega))
  refine ct_pen_batch (by omega) p5 o5 (oc.ext ECh.stab xx) ok h32 hq (by simp) fun s' g6 p6 o6 x6 k6 => ?_
  exact Ld.bytes (row_cell p6 rfl) (q s' g6 (xx.trans x6) o6)
end
end Go.Dn.W
