/- Changes: what may be. -/
import Derived.Test.YtemelcaoepaoiaaDnWr
import Derived.Test.YtemelcaoepaoiaaDnRLast
set_option linter.unusedVariables false
namespace Go.Dn.W
open Go Go.Dn Go.Proofs

/-- a change whose ref is no negative number -/
structure Chg where
  key : ByteArray
  ser : Nat
  pos : Nat
  len : Nat
  del : Bool
def chcells (c : Chg) : List Value := [.string c.key, .int .u64 (c.ser : Int), .int .i64 (c.pos : Int), .int .i64 (c.len : Int), .bool c.del]
theorem one_chcells (c : Chg) : ∀ u ∈ chcells c, u.oneCell' = true := by
  intro u hu
  simp only [chcells, List.mem_cons, List.not_mem_nil, or_false] at hu
  rcases hu with rfl | rfl | rfl | rfl | rfl <;> rfl
structure Chg.Ok (c : Chg) : Prop where
  key : pMay c.key = true
  del : c.del = true → c.ser = 0 ∧ c.pos = 0 ∧ c.len = 0
  ref : c.del = false → 1 ≤ c.ser ∧ c.ser ≤ 18446744073709551615 ∧ c.pos ≤ 65536 ∧ c.len ≤ 4096
def ECh : ElemRel Chg := fun _ _ cs c => cs = chcells c
theorem ECh.stab : Stab ECh := fun _ _ _ _ _ h _ => h
abbrev OwnC (h : Mem) (B : Nat) (s : Sl) (l : List Chg) : Prop := OwnL ty_api_Change 5 ECh h B B s l
theorem info_chg : infoOk PG ty_api_Change 5 48 = true := by kernel_rfl
theorem und_chg : ∃ d, PG.underlying ty_api_Change = some d := Option.isSome_iff_exists.1 (by kernel_rfl)
theorem agg_chg : isAggB PG ty_api_Change = true := by kernel_rfl
theorem sz_chg : szOf PG ty_api_Change = 5 := by kernel_rfl
theorem und_ref : ∃ d, PG.underlying ty_api_Ref = some d := Option.isSome_iff_exists.1 (by kernel_rfl)
theorem agg_ref : isAggB PG ty_api_Ref = true := by kernel_rfl
theorem sz_ref : szOf PG ty_api_Ref = 3 := by kernel_rfl

section
variable {h : Mem}
theorem Ld.chg {a : Addr} {c : Chg} {K : ByteArray → Int → Int → Int → Bool → Prop} (hc : Cells h a (chcells c)) (hk : K c.key c.ser c.pos c.len c.del) : Ld PG ty_api_Change a (.one (.agg [.str, .int .u64, .int .i64, .int .i64, .bool])) h K := by
  obtain ⟨t, hd⟩ := und_chg
  exact Ld.agg hd agg_chg sz_chg rfl hc ⟨_, .str _, _, .int _ _, _, .int _ _, _, .int _ _, _, .bool _, hk⟩
theorem Ld.ref {a : Addr} {x y z : Int} {K : Int → Int → Int → Prop} (hc : Cells h a [.int .u64 x, .int .i64 y, .int .i64 z]) (hk : K x y z) : Ld PG ty_api_Ref a (.one (.agg [.int .u64, .int .i64, .int .i64])) h K := by
  obtain ⟨t, hd⟩ := und_ref
  exact Ld.agg hd agg_ref sz_ref rfl hc ⟨_, .int _ _, _, .int _ _, _, .int _ _, hk⟩
theorem St.chg {b : Nat} {c0 : Array Value} {c : Chg} {K : Mem → Prop} (hr : h[b]? = some (.cells c0 ty_api_Change (0, 0))) (h5 : c0.size = 5)
    (hk : ∀ h', Upd b h h' → h'[b]? = some (.cells (chcells c).toArray ty_api_Change (0, 0)) → K h') : St PG ty_api_Change ⟨b, 0, none⟩ (.agg #[.string c.key, .int .u64 (c.ser : Int), .int .i64 (c.pos : Int), .int .i64 (c.len : Int), .bool c.del]) h K := by
  obtain ⟨t, hd⟩ := und_chg
  refine St.row hd (vs := chcells c) rfl sz_chg (one_chcells c) hr (by rw [h5]; exact Nat.le_refl 5) fun h' u r => hk h' u ?_
  rw [r]
  congr 2
  apply Array.ext'
  simp only [List.take_zero, List.nil_append]
  rw [List.drop_eq_nil_of_le (by rw [Array.length_toList, h5]; exact Nat.le_refl 5), List.append_nil]

def pRef (x y z : Int) : Bool := decide (x ≥ 1) && (decide (y ≥ 0) && (decide (y ≤ 65536) && (decide (z ≥ 0) && decide (z ≤ 4096))))
theorem ct_points {x y z : Int} {Q : Bool → Mem → Prop} (q : ∀ h', Ext h.size h h' → Q (pRef x y z) h') : CallF PG fn_batch_points [.agg #[.int .u64 x, .int .i64 y, .int .i64 z]] (.one (.leaf .bool)) h Q := by
  refine call_batch_points (New.go fun h1 _ x1 z1 r1 => ?_)
  have q := q h1 x1
  unfold pRef at q
  have c1 : cellAt h1 ((⟨h.size, 0, none⟩ : Addr).add 1) = some (.int .i64 y) := by rw [add_off]; exact row_cell r1 rfl
  have c2 : cellAt h1 ((⟨h.size, 0, none⟩ : Addr).add 2) = some (.int .i64 z) := by rw [add_off]; exact row_cell r1 rfl
  exact Ld.u (n := x) (row_cell r1 rfl) (Br.and (Q := fun b => Q b h1) q fun q => Ld.i c1 (Br.and (Q := fun b => Q b h1) q fun q => Ld.i c1 (Br.and (Q := fun b => Q b h1) q fun q => Ld.i c2 (Br.and (Q := fun b => Q b h1) q fun q => Ld.i c2 q))))
theorem ct_MayRef {x y z : Int} {Q : Bool → Mem → Prop} (q : ∀ h', Ext h.size h h' → Q (pRef x y z) h') : CallF PG fn_dunnageref10_MayRef [.agg #[.int .u64 x, .int .i64 y, .int .i64 z]] (.one (.leaf .bool)) h Q := by
  refine call_dunnageref10_MayRef (New.go fun h1 _ x1 z1 r1 => ?_)
  have q := q h1 x1
  unfold pRef at q
  have c1 : cellAt h1 ((⟨h.size, 0, none⟩ : Addr).add 1) = some (.int .i64 y) := by rw [add_off]; exact row_cell r1 rfl
  have c2 : cellAt h1 ((⟨h.size, 0, none⟩ : Addr).add 2) = some (.int .i64 z) := by rw [add_off]; exact row_cell r1 rfl
  exact Ld.u (n := x) (row_cell r1 rfl) (Br.and (Q := fun b => Q b h1) q fun q => Ld.i c1 (Br.and (Q := fun b => Q b h1) q fun q => Ld.i c1 (Br.and (Q := fun b => Q b h1) q fun q => Ld.i c2 (Br.and (Q := fun b => Q b h1) q fun q => Ld.i c2 q))))

theorem neq_ref {K : Bool → Prop} (hk : K false) : EqP PG BinOp.neq ty_api_Ref (.agg #[.int .u64 0, .int .i64 0, .int .i64 0]) (.agg #[.int .u64 0, .int .i64 0, .int .i64 0]) K := ⟨false, fun w => by kernel_rfl, by kernel_rfl, hk⟩
theorem eql_move {K : Bool → Prop} (hk : K true) : EqP PG BinOp.eql ty_api_Move (.agg #[.int .u64 0, .int .i64 0, .int .i64 0, .int .i64 0]) (.agg #[.int .u64 0, .int .i64 0, .int .i64 0, .int .i64 0]) K := ⟨true, fun w => by kernel_rfl, by kernel_rfl, hk⟩

theorem chg_tail {k : Nat} {c : Chg} {F Q0 : Mem → Prop} (ok : c.Ok) (r : h[k]? = some (.cells (chcells c).toArray ty_api_Change (0, 0))) (q : ∀ h', Ext h.size h h' → F h') :
    Ld PG ty_bool ((Addr.mk k 0 none).add 4) (Kd.one (Cmp.leaf Leaf.bool)) h fun (b25 : Bool) =>
      Br b25
        (Ld PG ty_api_Ref ((Addr.mk k 0 none).add 1) (Kd.one (Cmp.agg [Leaf.int IntKind.u64, Leaf.int IntKind.i64, Leaf.int IntKind.i64]))
          h fun (n26 n27 n28 : Int) =>
          EqP PG BinOp.neq ty_api_Ref (Value.agg #[Value.int IntKind.u64 n26, Value.int IntKind.i64 n27, Value.int IntKind.i64 n28])
            (Value.agg #[Value.int IntKind.u64 0, Value.int IntKind.i64 0, Value.int IntKind.i64 0]) fun (b29 : Bool) =>
            Br b29 (Q0 h)
              (Ld PG ty_bool ((Addr.mk k 0 none).add 4) (Kd.one (Cmp.leaf Leaf.bool)) h fun (b30 : Bool) =>
                Br (!b30)
                  (Ld PG ty_api_Ref ((Addr.mk k 0 none).add 1)
                    (Kd.one (Cmp.agg [Leaf.int IntKind.u64, Leaf.int IntKind.i64, Leaf.int IntKind.i64])) h fun (n31 n32 n33 : Int) =>
                    CallF PG fn_batch_points [Value.agg #[Value.int IntKind.u64 n31, Value.int IntKind.i64 n32, Value.int IntKind.i64 n33]]
                      (Kd.one (Cmp.leaf Leaf.bool)) h fun (b34 : Bool) (h35 : Mem) =>
                      Br (!b34) (Q0 h35) (F h35))
                  (F h)))
        (Ld PG ty_bool ((Addr.mk k 0 none).add 4) (Kd.one (Cmp.leaf Leaf.bool)) h fun (b36 : Bool) =>
          Br (!b36)
            (Ld PG ty_api_Ref ((Addr.mk k 0 none).add 1)
              (Kd.one (Cmp.agg [Leaf.int IntKind.u64, Leaf.int IntKind.i64, Leaf.int IntKind.i64])) h fun (n37 n38 n39 : Int) =>
              CallF PG fn_batch_points [Value.agg #[Value.int IntKind.u64 n37, Value.int IntKind.i64 n38, Value.int IntKind.i64 n39]]
                (Kd.one (Cmp.leaf Leaf.bool)) h fun (b40 : Bool) (h41 : Mem) =>
                Br (!b40) (Q0 h41) (F h41))
            (F h)) := by
  have cd : cellAt h ((⟨k, 0, none⟩ : Addr).add 4) = some (.bool c.del) := by rw [add_off]; exact row_cell r rfl
  have cr : Cells h ((⟨k, 0, none⟩ : Addr).add 1) [.int .u64 (c.ser : Int), .int .i64 (c.pos : Int), .int .i64 (c.len : Int)] := by
    rw [add_off]
    refine Cells.row r fun i v hv => ?_
    match i, hv with
    | 0, hv => exact hv
    | 1, hv => exact hv
    | 2, hv => exact hv
    | i + 3, hv => simp at hv
  refine Ld.flag cd (Br.mk (fun e => Ld.ref cr ?_) fun e => Ld.flag cd (Br.t (by rw [e]; rfl) (Ld.ref cr (ct_points fun h' x' => Br.f ?_ (q h' x')))))
  · obtain ⟨e1, e2, e3⟩ := ok.del e
    rw [e1, e2, e3]
    exact neq_ref (Br.f rfl (Ld.flag cd (Br.f (by rw [e]; rfl) (q h (Ext.refl _ _)))))
  · obtain ⟨e1, e2, e3, e4⟩ := ok.ref e
    simp only [pRef, Bool.not_eq_false', Bool.and_eq_true, decide_eq_true_eq]
    omega
def RisesC (l : List Chg) : Prop := l.Pairwise fun p q => sLt p.key q.key = true
theorem RisesC.lt {l : List Chg} (r : RisesC l) {i j : Nat} {p q : Chg} (hij : i < j) (hp : l[i]? = some p) (hq : l[j]? = some q) : sLt p.key q.key = true := by
  unfold RisesC at r
  rw [List.pairwise_iff_getElem] at r
  obtain ⟨hi, rfl⟩ := List.getElem?_eq_some_iff.1 hp
  obtain ⟨hj, rfl⟩ := List.getElem?_eq_some_iff.1 hq
  exact r i j hi hj hij
theorem OwnL.chg {B' B : Nat} {s : Sl} {l : List Chg} (x : OwnL ty_api_Change 5 ECh h B' B s l) {i : Nat} {c : Chg} (hc : l[i]? = some c) : ∃ a, s.a = some a ∧ Cells h (a.add (i * 5)) (chcells c) := by
  obtain ⟨a, cs, ha, h1, rfl, _⟩ := x.get (by decide) hc
  exact ⟨a, ha, h1⟩
theorem ct_changes {B : Nat} {s : Sl} {l : List Chg} {Q : Bool → Mem → Prop} (o : OwnC h B s l) (ok : ∀ c ∈ l, c.Ok) (r : RisesC l) (h0 : 1 ≤ l.length) (h32 : l.length ≤ 32) (q : ∀ h', Ext h.size h h' → Q true h') : CallF PG fn_batch_changes [sval s] (.one (.leaf .bool)) h Q := by
  have hlen := o.len (by decide)
  refine call_batch_changes ⟨fun b h' => b = false ∧ h' = h, ?_, Br.f (by rw [hlen]; simp; omega) ⟨by rw [hlen]; simp; omega, rfl⟩⟩
  rintro _ b h4 ⟨rfl, rfl⟩
  refine Br.f rfl ⟨fun n h' => ∃ i : Nat, n = (i : Int) ∧ i ≤ l.length ∧ Ext h4.size h4 h', fun n _ => l.length - n.toNat, ⟨0, rfl, Nat.zero_le _, Ext.refl _ _⟩, ?_⟩
  rintro _ n h9 ⟨i, rfl, hi, x9⟩
  refine Br.mk (fun e1 => ?_) fun e1 => q _ x9
  simp only [decide_eq_true_eq] at e1
  rw [hlen] at e1
  obtain ⟨c, hc⟩ : ∃ c, l[i]? = some c := ⟨_, List.getElem?_eq_getElem (by omega)⟩
  have okc := ok c (List.mem_of_getElem? hc)
  have o9 := o.ext ECh.stab x9
  obtain ⟨ad, ha, hcc⟩ := o9.chg hc
  refine Idx.mk ha (by omega) ?_
  rw [nat_mul]
  refine Ld.chg hcc (New.go fun h17 _ x17 z17 r17 => St.chg r17 rfl fun h18 u18 r18 => ?_)
  have x18 : Ext h9.size h9 h18 := x17.trans (u18.ext (Nat.le_refl _))
  refine Ld.key (row_cell r18 rfl) (ct_May (Br.f (by rw [okc.key]; rfl) ?_))
  have fin : ∀ h', Ext h18.size h18 h' → (fun n h' => ∃ i : Nat, n = (i : Int) ∧ i ≤ l.length ∧ Ext h4.size h4 h') (IntKind.i64.wrap ((i : Int) + 1)) h' ∧ (fun (n : Int) (_ : Mem) => l.length - n.toNat) (IntKind.i64.wrap ((i : Int) + 1)) h' < (fun (n : Int) (_ : Mem) => l.length - n.toNat) (i : Int) h9 := fun h' x' => by
    rw [wrap_succ (by omega)]
    exact ⟨⟨i + 1, rfl, by omega, x9.after (x18.after x')⟩, by simp only [Int.toNat_natCast]; omega⟩
  refine Br.mk (fun e2 => ?_) fun e2 => chg_tail okc r18 fin
  simp only [gt_iff_lt, decide_eq_true_eq] at e2
  obtain ⟨c', hc'⟩ : ∃ c', l[i - 1]? = some c' := ⟨_, List.getElem?_eq_getElem (by omega)⟩
  obtain ⟨ad2, ha2, hcc2⟩ := (o9.ext ECh.stab x18).chg hc'
  refine Ld.key (row_cell r18 rfl) ?_
  rw [i64_eq (by omega) (by omega), show ((i : Int) - 1) = ((i - 1 : Nat) : Int) by omega]
  refine Idx.mk ha2 (by omega) ?_
  rw [nat_mul]
  refine Ld.key (hcc2 0 _ rfl) (Br.f ?_ (chg_tail okc r18 fin))
  have := r.lt (show i - 1 < i by omega) hc' hc
  rw [sLt_asymm this, sEq_false.2 (fun e => sLt_ne this e.symm)]; rfl

theorem ct_May_batch {B seq : Nat} {s : Sl} {l : List Chg} {Q : Bool → Mem → Prop} (o : OwnC h B s l) (ok : ∀ c ∈ l, c.Ok) (r : RisesC l) (h0 : 1 ≤ l.length) (h32 : l.length ≤ 32) (hq : 1 ≤ seq) (q : ∀ h', Ext h.size h h' → Q true h') :
    CallF PG fn_batch_May [.agg #[.int .i64 1, .int .u64 (seq : Int), sval s, .int .u64 0, .int .i64 0, .int .i64 0, .int .i64 0]] (.one (.leaf .bool)) h Q := by
  refine call_batch_May (r_0 := 1) (r_1 := seq) (r_3 := 0) (New.go fun h1 _ x1 z1 r1 => ?_)
  refine Ld.i (row_cell r1 rfl) (Br.t rfl ?_)
  refine Ld.u (n := seq) (by rw [add_off]; exact row_cell r1 rfl) (Br.t (by simp; omega) ?_)
  refine Ld.chs (v := s) (by rw [add_off]; exact row_cell r1 rfl) (ct_changes (o.ext ECh.stab x1) ok r h0 h32 fun h2 x2 => Br.t rfl ?_)
  have r2 := (x2.block h.size (by omega)).trans r1
  refine Ld.move (ms := 0) (mf := 0) (mt := 0) (mn := 0) ?_ (eql_move (q _ (x1.after x2)))
  rw [add_off]
  refine Cells.row r2 fun i v hv => ?_
  match i, hv with
  | 0, hv => exact hv
  | 1, hv => exact hv
  | 2, hv => exact hv
  | 3, hv => exact hv
  | i + 4, hv => simp at hv
end
end Go.Dn.W
