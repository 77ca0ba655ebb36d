/- Structs held against each other. -/
import Derived.Test.YtemelcaoepaoiaaDnChg
import Derived.Laws.StructEq
import Derived.Test.YtemelcaoepaoiaaDnWrB
set_option linter.unusedVariables false
namespace Go.Dn.W
open Go Go.Dn Go.Proofs

theorem eqFields_cons {P : Program} {w : World} {d : Nat} {xs ys : Array Value} {f : Field} {fs : List Field} {a b : Value} {r : Bool} (hn : (f.name != "_") = true) (ha : (part f.type xs f.offset).run P w = .ok a w) (hb : (part f.type ys f.offset).run P w = .ok b w)
    (he : (Op.equalIn d f.type a b).run P w = .ok r w) {r' : Bool} (hr : (Op.eqFields d xs ys fs).run P w = .ok r' w) : (Op.eqFields d xs ys (f :: fs)).run P w = .ok (r && r') w := by
  have hn : f.name ≠ "_" := by simpa using hn
  simp only [Op.eqFields, if_pos hn, Sem.run_bind, ha, hb, he, Result.andThen_ok]
  cases r with
  | false => simp
  | true => simpa using hr

noncomputable def fieldsB (t : TypeId) : List (Bool × TypeId × Nat) := (PG.fieldsOf t).toList.map fun f => (f.name != "_", f.type, f.offset)
theorem fb_ref : fieldsB ty_api_Ref = [(true, ty_uint64, 0), (true, ty_int, 1), (true, ty_int, 2)] := by kernel_rfl
theorem fb_move : fieldsB ty_api_Move = [(true, ty_uint64, 0), (true, ty_int, 1), (true, ty_int, 2), (true, ty_int, 3)] := by kernel_rfl
theorem fb_chg : fieldsB ty_api_Change = [(true, ty_string, 0), (true, ty_api_Ref, 1), (true, ty_bool, 4)] := by kernel_rfl
theorem st_ref : PG.underlying ty_api_Ref = some (.struct (PG.fieldsOf ty_api_Ref)) := by kernel_rfl
theorem st_move : PG.underlying ty_api_Move = some (.struct (PG.fieldsOf ty_api_Move)) := by kernel_rfl
theorem st_chg : PG.underlying ty_api_Change = some (.struct (PG.fieldsOf ty_api_Change)) := by kernel_rfl
theorem sh_ref : PG.stoodInHeld ty_api_Ref = false := by kernel_rfl
theorem sh_move : PG.stoodInHeld ty_api_Move = false := by kernel_rfl
theorem sh_chg : PG.stoodInHeld ty_api_Change = false := by kernel_rfl

theorem eqFieldsB_cons {w : World} {d : Nat} {xs ys : Array Value} {fs : List Field} {l : List (Bool × TypeId × Nat)} {t : TypeId} {o : Nat} {a b : Value} {r r' : Bool} (hf : fs.map (fun f => (f.name != "_", f.type, f.offset)) = (true, t, o) :: l)
    (ha : (part t xs o).run PG w = .ok a w) (hb : (part t ys o).run PG w = .ok b w) (he : (Op.equalIn d t a b).run PG w = .ok r w) (hr : ∀ fs' : List Field, fs'.map (fun f => (f.name != "_", f.type, f.offset)) = l → (Op.eqFields d xs ys fs').run PG w = .ok r' w) :
    (Op.eqFields d xs ys fs).run PG w = .ok (r && r') w := by
  cases fs with
  | nil => cases hf
  | cons f fs =>
    simp only [List.map_cons, List.cons.injEq, Prod.mk.injEq] at hf
    obtain ⟨⟨h1, rfl, rfl⟩, h2⟩ := hf
    exact eqFields_cons h1 ha hb he (hr fs h2)
theorem eqFieldsB_nil {w : World} {d : Nat} {xs ys : Array Value} {fs : List Field} (hf : fs.map (fun f => (f.name != "_", f.type, f.offset)) = []) : (Op.eqFields d xs ys fs).run PG w = .ok true w := by
  cases fs with
  | nil => rfl
  | cons f fs => cases hf

theorem eqIn_ref (d : Nat) (w : World) (a0 a1 a2 b0 b1 b2 : Int) : (Op.equalIn (d + 2) ty_api_Ref (.agg #[.int .u64 a0, .int .i64 a1, .int .i64 a2]) (.agg #[.int .u64 b0, .int .i64 b1, .int .i64 b2])).run PG w = .ok (a0 == b0 && (a1 == b1 && (a2 == b2 && true))) w := by
  rw [run_equalIn_agg w (d + 1) _ _ _ st_ref sh_ref]
  refine eqFieldsB_cons fb_ref (by kernel_rfl) (by kernel_rfl) (run_equalIn_int w d _ .u64 .u64 _ _ und_u) fun fs hf => ?_
  refine eqFieldsB_cons hf (by kernel_rfl) (by kernel_rfl) (run_equalIn_int w d _ .i64 .i64 _ _ und_i) fun fs hf => ?_
  exact eqFieldsB_cons hf (by kernel_rfl) (by kernel_rfl) (run_equalIn_int w d _ .i64 .i64 _ _ und_i) fun fs hf => eqFieldsB_nil hf
theorem eqIn_move (d : Nat) (w : World) (a0 a1 a2 a3 b0 b1 b2 b3 : Int) : (Op.equalIn (d + 2) ty_api_Move (.agg #[.int .u64 a0, .int .i64 a1, .int .i64 a2, .int .i64 a3]) (.agg #[.int .u64 b0, .int .i64 b1, .int .i64 b2, .int .i64 b3])).run PG w = .ok (a0 == b0 && (a1 == b1 && (a2 == b2 && (a3 == b3 && true)))) w := by
  rw [run_equalIn_agg w (d + 1) _ _ _ st_move sh_move]
  refine eqFieldsB_cons fb_move (by kernel_rfl) (by kernel_rfl) (run_equalIn_int w d _ .u64 .u64 _ _ und_u) fun fs hf => ?_
  refine eqFieldsB_cons hf (by kernel_rfl) (by kernel_rfl) (run_equalIn_int w d _ .i64 .i64 _ _ und_i) fun fs hf => ?_
  refine eqFieldsB_cons hf (by kernel_rfl) (by kernel_rfl) (run_equalIn_int w d _ .i64 .i64 _ _ und_i) fun fs hf => ?_
  exact eqFieldsB_cons hf (by kernel_rfl) (by kernel_rfl) (run_equalIn_int w d _ .i64 .i64 _ _ und_i) fun fs hf => eqFieldsB_nil hf
theorem eqIn_chg (d : Nat) (w : World) (ka kb : ByteArray) (a0 a1 a2 b0 b1 b2 : Int) (da db : Bool) : (Op.equalIn (d + 3) ty_api_Change (.agg #[.string ka, .int .u64 a0, .int .i64 a1, .int .i64 a2, .bool da]) (.agg #[.string kb, .int .u64 b0, .int .i64 b1, .int .i64 b2, .bool db])).run PG w
    = .ok ((ka.toList == kb.toList) && ((a0 == b0 && (a1 == b1 && (a2 == b2 && true))) && ((da == db) && true))) w := by
  rw [run_equalIn_agg w (d + 2) _ _ _ st_chg sh_chg]
  refine eqFieldsB_cons fb_chg (by kernel_rfl) (by kernel_rfl) (run_equalIn_string w (d + 1) _ _ _ und_str) fun fs hf => ?_
  refine eqFieldsB_cons hf (a := .agg #[.int .u64 a0, .int .i64 a1, .int .i64 a2]) (b := .agg #[.int .u64 b0, .int .i64 b1, .int .i64 b2]) (by kernel_rfl) (by kernel_rfl) (eqIn_ref d w _ _ _ _ _ _) fun fs hf => ?_
  exact eqFieldsB_cons hf (by kernel_rfl) (by kernel_rfl) (run_equalIn_bool' w (d + 1) _ _ _ und_bool) fun fs hf => eqFieldsB_nil hf

theorem EqP.ref_neq {a0 a1 a2 b0 b1 b2 : Int} {K : Bool → Prop} (hk : K (!decide (a0 = b0 ∧ a1 = b1 ∧ a2 = b2))) : EqP PG BinOp.neq ty_api_Ref (.agg #[.int .u64 a0, .int .i64 a1, .int .i64 a2]) (.agg #[.int .u64 b0, .int .i64 b1, .int .i64 b2]) K := by
  refine ⟨_, fun w => ?_, by kernel_rfl, hk⟩
  rw [run_neq_struct, show (10000 : Nat) = 9998 + 2 from rfl, eqIn_ref]
  have : (a0 == b0 && (a1 == b1 && (a2 == b2 && true))) = decide (a0 = b0 ∧ a1 = b1 ∧ a2 = b2) := by simp only [Bool.and_true, Bool.decide_and]; rfl
  rw [this]; rfl
theorem EqP.move {op : BinOp} {a0 a1 a2 a3 b0 b1 b2 b3 : Int} {K : Bool → Prop} (hop : op = .eql ∨ op = .neq) (hk : K (if op = .eql then decide (a0 = b0 ∧ a1 = b1 ∧ a2 = b2 ∧ a3 = b3) else !decide (a0 = b0 ∧ a1 = b1 ∧ a2 = b2 ∧ a3 = b3))) :
    EqP PG op ty_api_Move (.agg #[.int .u64 a0, .int .i64 a1, .int .i64 a2, .int .i64 a3]) (.agg #[.int .u64 b0, .int .i64 b1, .int .i64 b2, .int .i64 b3]) K := by
  have e : (a0 == b0 && (a1 == b1 && (a2 == b2 && (a3 == b3 && true)))) = decide (a0 = b0 ∧ a1 = b1 ∧ a2 = b2 ∧ a3 = b3) := by simp only [Bool.and_true, Bool.decide_and]; rfl
  refine ⟨_, fun w => ?_, by kernel_rfl, hk⟩
  rcases hop with rfl | rfl
  · rw [run_eql_struct, show (10000 : Nat) = 9998 + 2 from rfl, eqIn_move, e]; rfl
  · rw [run_neq_struct, show (10000 : Nat) = 9998 + 2 from rfl, eqIn_move, e]; rfl
theorem EqP.chg {op : BinOp} {ka kb : ByteArray} {a0 a1 a2 b0 b1 b2 : Int} {da db : Bool} {K : Bool → Prop} (hop : op = .eql ∨ op = .neq) (hk : K (if op = .eql then decide (ka = kb ∧ a0 = b0 ∧ a1 = b1 ∧ a2 = b2 ∧ da = db) else !decide (ka = kb ∧ a0 = b0 ∧ a1 = b1 ∧ a2 = b2 ∧ da = db))) :
    EqP PG op ty_api_Change (.agg #[.string ka, .int .u64 a0, .int .i64 a1, .int .i64 a2, .bool da]) (.agg #[.string kb, .int .u64 b0, .int .i64 b1, .int .i64 b2, .bool db]) K := by
  have e : ((ka.toList == kb.toList) && ((a0 == b0 && (a1 == b1 && (a2 == b2 && true))) && ((da == db) && true))) = decide (ka = kb ∧ a0 = b0 ∧ a1 = b1 ∧ a2 = b2 ∧ da = db) := by
    have : (ka.toList == kb.toList) = decide (ka = kb) := by
      have h1 : (sEq ka kb = true) ↔ ka = kb := sEq_iff
      show sEq ka kb = _
      cases h : sEq ka kb with
      | true => simp [h1.1 h]
      | false => simp [sEq_false.1 h]
    rw [this]
    simp only [Bool.and_true, Bool.decide_and, Bool.and_assoc]
    rfl
  refine ⟨_, fun w => ?_, by kernel_rfl, hk⟩
  rcases hop with rfl | rfl
  · rw [run_eql_struct, show (10000 : Nat) = 9997 + 3 from rfl, eqIn_chg, e]; rfl
  · rw [run_neq_struct, show (10000 : Nat) = 9997 + 3 from rfl, eqIn_chg, e]; rfl
end Go.Dn.W

set_option linter.unusedVariables false
namespace Go.Dn.W
open Go Go.Dn Go.Proofs

structure Cg where
  key : ByteArray
  ser : Int
  pos : Int
  len : Int
  del : Bool
def cgcells (c : Cg) : List Value := [.string c.key, .int .u64 c.ser, .int .i64 c.pos, .int .i64 c.len, .bool c.del]
theorem one_cgcells (c : Cg) : ∀ u ∈ cgcells c, u.oneCell' = true := by
  intro u hu
  simp only [cgcells, List.mem_cons, List.not_mem_nil, or_false] at hu
  rcases hu with rfl | rfl | rfl | rfl | rfl <;> rfl
def ECg : ElemRel Cg := fun _ _ cs c => cs = cgcells c
theorem ECg.stab : Stab ECg := fun _ _ _ _ _ h _ => h
structure ChsAt (h : Mem) (s : Sl) (l : List Cg) : Prop where
  len : s.len = l.length
  at_ : ∀ (i : Nat) (c : Cg), l[i]? = some c → ∃ a, s.a = some a ∧ Cells h (a.add (i * 5)) (cgcells c)
theorem ChsAt.ext {h h' : Mem} {s : Sl} {l : List Cg} (x : ChsAt h s l) (e : Ext h.size h h') : ChsAt h' s l := ⟨x.len, fun i r hr => let ⟨a, ha, hc⟩ := x.at_ i r hr; ⟨a, ha, hc.ext e⟩⟩
theorem OwnL.chs {h : Mem} {B' B : Nat} {s : Sl} {l : List Cg} (x : OwnL ty_api_Change 5 ECg h B' B s l) : ChsAt h s l := ⟨x.len (by decide), fun i c hc => by
  obtain ⟨a, cs, ha, h1, rfl, _⟩ := x.get (by decide) hc
  exact ⟨a, ha, h1⟩⟩

def tailOk (c : Cg) : Bool := if c.del then decide (c.ser = 0 ∧ c.pos = 0 ∧ c.len = 0) else pRef c.ser c.pos c.len
/-- the first i changes may be -/
def ChTo (l : List Cg) (i : Nat) : Prop := ∀ (j : Nat) (c : Cg), j < i → l[j]? = some c → (pMay c.key = true ∧ tailOk c = true) ∧ ∀ p, 0 < j → l[j - 1]? = some p → sLt p.key c.key = true
def ChOk (l : List Cg) : Prop := 1 ≤ l.length ∧ l.length ≤ 32 ∧ ChTo l l.length
theorem ChTo.step {l : List Cg} {i : Nat} {c : Cg} (x : ChTo l i) (hc : l[i]? = some c) (h1 : pMay c.key = true) (h2 : tailOk c = true) (h3 : ∀ p, 0 < i → l[i - 1]? = some p → sLt p.key c.key = true) : ChTo l (i + 1) := by
  intro j d hj hd
  rcases Nat.lt_or_eq_of_le (Nat.le_of_lt_succ hj) with hlt | rfl
  · exact x j d hlt hd
  · rw [hc] at hd; cases hd; exact ⟨⟨h1, h2⟩, h3⟩

section
variable {h : Mem}
theorem Ld.cg {a : Addr} {c : Cg} {K : ByteArray → Int → Int → Int → Bool → Prop} (hc : Cells h a (cgcells c)) (hk : K c.key c.ser c.pos c.len c.del) : Ld PG ty_api_Change a (.one (.agg [.str, .int .u64, .int .i64, .int .i64, .bool])) h K := by
  obtain ⟨t, hd⟩ := und_chg
  exact Ld.agg hd agg_chg sz_chg rfl hc ⟨_, .str _, _, .int _ _, _, .int _ _, _, .int _ _, _, .bool _, hk⟩
theorem St.cg {b : Nat} {c0 : Array Value} {c : Cg} {K : Mem → Prop} (hr : h[b]? = some (.cells c0 ty_api_Change (0, 0))) (h5 : c0.size = 5)
    (hk : ∀ h', Upd b h h' → h'[b]? = some (.cells (cgcells c).toArray ty_api_Change (0, 0)) → K h') : St PG ty_api_Change ⟨b, 0, none⟩ (.agg #[.string c.key, .int .u64 c.ser, .int .i64 c.pos, .int .i64 c.len, .bool c.del]) h K := by
  obtain ⟨t, hd⟩ := und_chg
  refine St.row hd (vs := cgcells c) rfl sz_chg (one_cgcells c) hr (by rw [h5]; exact Nat.le_refl 5) fun h' u r => hk h' u ?_
  rw [r]
  congr 2
  apply Array.ext'
  simp only [List.take_zero, List.nil_append]
  rw [List.drop_eq_nil_of_le (by rw [Array.length_toList, h5]; exact Nat.le_refl 5), List.append_nil]
theorem cg_flag {k : Nat} {c : Cg} (r : h[k]? = some (.cells (cgcells c).toArray ty_api_Change (0, 0))) : cellAt h ((⟨k, 0, none⟩ : Addr).add 4) = some (.bool c.del) := by rw [add_off]; exact row_cell r rfl
theorem cg_ref {k : Nat} {c : Cg} (r : h[k]? = some (.cells (cgcells c).toArray ty_api_Change (0, 0))) : Cells h ((⟨k, 0, none⟩ : Addr).add 1) [.int .u64 c.ser, .int .i64 c.pos, .int .i64 c.len] := by
  rw [add_off]
  refine Cells.row r fun i v hv => ?_
  match i, hv with
  | 0, hv => exact hv
  | 1, hv => exact hv
  | 2, hv => exact hv
  | i + 3, hv => simp at hv

theorem cg_tail {k : Nat} {c : Cg} {F Q0 : Mem → Prop} (r : h[k]? = some (.cells (cgcells c).toArray ty_api_Change (0, 0))) (q : ∀ h', Ext h.size h h' → tailOk c = true → F h') (q0 : ∀ h', Ext h.size h h' → tailOk c = false → Q0 h') :
    Ld PG ty_bool ((Addr.mk k 0 none).add 4) (Kd.one (Cmp.leaf Leaf.bool)) h fun (b25 : Bool) =>
      Br b25
        (Ld PG ty_api_Ref ((Addr.mk k 0 none).add 1) (Kd.one (Cmp.agg [Leaf.int IntKind.u64, Leaf.int IntKind.i64, Leaf.int IntKind.i64]))
          h fun (n26 n27 n28 : Int) =>
          EqP PG BinOp.neq ty_api_Ref (Value.agg #[Value.int IntKind.u64 n26, Value.int IntKind.i64 n27, Value.int IntKind.i64 n28])
            (Value.agg #[Value.int IntKind.u64 0, Value.int IntKind.i64 0, Value.int IntKind.i64 0]) fun (b29 : Bool) =>
            Br b29 (Q0 h)
              (Ld PG ty_bool ((Addr.mk k 0 none).add 4) (Kd.one (Cmp.leaf Leaf.bool)) h fun (b30 : Bool) =>
                Br (!b30)
                  (Ld PG ty_api_Ref ((Addr.mk k 0 none).add 1)
                    (Kd.one (Cmp.agg [Leaf.int IntKind.u64, Leaf.int IntKind.i64, Leaf.int IntKind.i64])) h fun (n31 n32 n33 : Int) =>
                    CallF PG fn_batch_points [Value.agg #[Value.int IntKind.u64 n31, Value.int IntKind.i64 n32, Value.int IntKind.i64 n33]]
                      (Kd.one (Cmp.leaf Leaf.bool)) h fun (b34 : Bool) (h35 : Mem) =>
                      Br (!b34) (Q0 h35) (F h35))
                  (F h)))
        (Ld PG ty_bool ((Addr.mk k 0 none).add 4) (Kd.one (Cmp.leaf Leaf.bool)) h fun (b36 : Bool) =>
          Br (!b36)
            (Ld PG ty_api_Ref ((Addr.mk k 0 none).add 1)
              (Kd.one (Cmp.agg [Leaf.int IntKind.u64, Leaf.int IntKind.i64, Leaf.int IntKind.i64])) h fun (n37 n38 n39 : Int) =>
              CallF PG fn_batch_points [Value.agg #[Value.int IntKind.u64 n37, Value.int IntKind.i64 n38, Value.int IntKind.i64 n39]]
                (Kd.one (Cmp.leaf Leaf.bool)) h fun (b40 : Bool) (h41 : Mem) =>
                Br (!b40) (Q0 h41) (F h41))
            (F h)) := by
  have cd := cg_flag r
  have cr := cg_ref r
  refine Ld.flag cd (Br.mk (fun e => Ld.ref cr (EqP.ref_neq ?_)) fun e => Ld.flag cd (Br.t (by rw [e]; rfl) (Ld.ref cr (ct_points fun h' x' => ?_))))
  · have et : tailOk c = decide (c.ser = 0 ∧ c.pos = 0 ∧ c.len = 0) := if_pos e
    rw [← et]
    refine Br.mk (fun e2 => q0 h (Ext.refl _ _) (by simpa using e2)) fun e2 => Ld.flag cd (Br.f (by rw [e]; rfl) (q h (Ext.refl _ _) (by simpa using e2)))
  · have et : tailOk c = pRef c.ser c.pos c.len := if_neg (by rw [e]; decide)
    rw [← et]
    exact Br.mk (fun e2 => q0 h' x' (by simpa using e2)) fun e2 => q h' x' (by simpa using e2)

theorem ct_changes' {s : Sl} {l : List Cg} {Q : Bool → Mem → Prop} (a : ChsAt h s l) (hl : l.length ≤ 140737488355328) (qy : ChOk l → ∀ h', Ext h.size h h' → Q true h') (qn : ¬ ChOk l → ∀ h', Ext h.size h h' → Q false h') : CallF PG fn_batch_changes [sval s] (.one (.leaf .bool)) h Q := by
  have hlen := a.len
  refine call_batch_changes ⟨fun b h' => b = !decide (1 ≤ l.length ∧ l.length ≤ 32) ∧ h' = h, ?_, Br.mk (fun e => ⟨?_, rfl⟩) fun e => ⟨?_, rfl⟩⟩
  rotate_left
  · rw [hlen] at e
    simp only [decide_eq_true_eq] at e
    have : ¬ (1 ≤ l.length ∧ l.length ≤ 32) := by omega
    simp [this]
  · rw [hlen] at e ⊢
    simp only [decide_eq_false_iff_not] at e
    by_cases h2 : l.length ≤ 32
    · have : 1 ≤ l.length ∧ l.length ≤ 32 := by omega
      rw [decide_eq_true this, decide_eq_false (by omega)]; rfl
    · have : ¬ (1 ≤ l.length ∧ l.length ≤ 32) := by omega
      rw [decide_eq_false this, decide_eq_true (by omega)]; rfl
  rintro _ b h4 ⟨rfl, rfl⟩
  refine Br.mk (fun e => qn (fun ok => ?_) h4 (Ext.refl _ _)) fun e => ?_
  · rw [decide_eq_true ⟨ok.1, ok.2.1⟩] at e; cases e
  have hb : 1 ≤ l.length ∧ l.length ≤ 32 := by simpa using e
  refine ⟨fun n h' => ∃ i : Nat, n = (i : Int) ∧ i ≤ l.length ∧ Ext h4.size h4 h' ∧ ChTo l i, fun n _ => l.length - n.toNat, ⟨0, rfl, Nat.zero_le _, Ext.refl _ _, fun j c hj => by omega⟩, ?_⟩
  rintro _ n h9 ⟨i, rfl, hi, x9, ct⟩
  refine Br.mk (fun e1 => ?_) fun e1 => ?_
  rotate_left
  · simp only [decide_eq_false_iff_not] at e1
    rw [hlen] at e1
    have : i = l.length := by omega
    subst this
    exact qy ⟨hb.1, hb.2, ct⟩ _ x9
  simp only [decide_eq_true_eq] at e1
  rw [hlen] at e1
  obtain ⟨c, hc⟩ : ∃ c, l[i]? = some c := ⟨_, List.getElem?_eq_getElem (by omega)⟩
  have bad : (pMay c.key = true ∧ tailOk c = true → ∃ p, 0 < i ∧ l[i - 1]? = some p ∧ sLt p.key c.key = false) → ¬ ChOk l := fun hb' ok => by
    obtain ⟨h1, h2⟩ := ok.2.2 i c (by omega) hc
    obtain ⟨p, hp0, hp, hlt⟩ := hb' h1
    rw [h2 p hp0 hp] at hlt; cases hlt
  obtain ⟨ad, ha, hcc⟩ := (a.ext x9).at_ i c hc
  refine Idx.mk ha (by omega) ?_
  rw [nat_mul]
  refine Ld.cg hcc (New.go fun h17 _ x17 z17 r17 => St.cg r17 rfl fun h18 u18 r18 => ?_)
  have x18 : Ext h9.size h9 h18 := x17.trans (u18.ext (Nat.le_refl _))
  have x418 := x9.after x18
  refine Ld.key (row_cell r18 rfl) (ct_May (Br.mk (fun e2 => qn (bad fun ⟨h1, _⟩ => by rw [h1] at e2; cases e2) _ x418) fun e2 => ?_))
  have hmay : pMay c.key = true := by simpa using e2
  have fin : (∀ p, 0 < i → l[i - 1]? = some p → sLt p.key c.key = true) → ∀ h', Ext h18.size h18 h' → tailOk c = true → (fun n h' => ∃ i : Nat, n = (i : Int) ∧ i ≤ l.length ∧ Ext h4.size h4 h' ∧ ChTo l i) (IntKind.i64.wrap ((i : Int) + 1)) h' ∧ (fun (n : Int) (_ : Mem) => l.length - n.toNat) (IntKind.i64.wrap ((i : Int) + 1)) h' < (fun (n : Int) (_ : Mem) => l.length - n.toNat) (i : Int) h9 := fun hp h' x' ht => by
    rw [wrap_succ (by omega)]
    exact ⟨⟨i + 1, rfl, by omega, x418.after x', ct.step hc hmay ht hp⟩, by simp only [Int.toNat_natCast]; omega⟩
  have fail : ∀ h', Ext h18.size h18 h' → tailOk c = false → Q false h' := fun h' x' ht => qn (bad fun ⟨_, h2⟩ => by rw [ht] at h2; cases h2) _ (x418.after x')
  refine Br.mk (fun e3 => ?_) fun e3 => cg_tail r18 (fin fun p hp => ?_) fail
  rotate_left
  · simp only [gt_iff_lt, decide_eq_false_iff_not] at e3; omega
  simp only [gt_iff_lt, decide_eq_true_eq] at e3
  obtain ⟨c', hc'⟩ : ∃ c', l[i - 1]? = some c' := ⟨_, List.getElem?_eq_getElem (by omega)⟩
  obtain ⟨ad2, ha2, hcc2⟩ := (a.ext x418).at_ (i - 1) c' hc'
  refine Ld.key (row_cell r18 rfl) ?_
  rw [i64_eq (by omega) (by omega), show ((i : Int) - 1) = ((i - 1 : Nat) : Int) by omega]
  refine Idx.mk ha2 (by omega) ?_
  rw [nat_mul]
  refine Ld.key (hcc2 0 _ rfl) ?_
  rw [sLt_or]
  refine Br.mk (fun e4 => qn (bad fun _ => ⟨c', by omega, hc', by simpa using e4⟩) _ x418) fun e4 => cg_tail r18 (fin fun p _ hp => ?_) fail
  rw [hc'] at hp; cases hp
  simpa using e4

/-- which records may be -/
structure Rc where
  kind : Int
  seq : Int
  ms : Int
  mf : Int
  mt : Int
  mn : Int
def RecOk (r : Rc) (l : List Cg) : Prop := (r.kind = 1 ∧ r.seq ≥ 1 ∧ ChOk l ∧ r.ms = 0 ∧ r.mf = 0 ∧ r.mt = 0 ∧ r.mn = 0) ∨ (r.kind = 2 ∧ r.seq = 0 ∧ l.length = 0 ∧ pMove r.ms r.mf r.mt r.mn = true)
def rcs (r : Rc) (s : Sl) : List Value := rcells r.kind r.seq s r.ms r.mf r.mt r.mn
theorem ct_May' {s : Sl} {r : Rc} {l : List Cg} {Q : Bool → Mem → Prop} (a : ChsAt h s l) (hl : l.length ≤ 140737488355328) (qy : RecOk r l → ∀ h', Ext h.size h h' → Q true h') (qn : ¬ RecOk r l → ∀ h', Ext h.size h h' → Q false h') :
    CallF PG fn_batch_May [.agg #[.int .i64 r.kind, .int .u64 r.seq, sval s, .int .u64 r.ms, .int .i64 r.mf, .int .i64 r.mt, .int .i64 r.mn]] (.one (.leaf .bool)) h Q := by
  refine call_batch_May (New.go fun h1 _ x1 z1 r1 => ?_)
  have r1 : h1[h.size]? = some (.cells (rcs r s).toArray ty_api_Record (0, 0)) := r1
  have mv : ∀ {h2 : Mem}, h2[h.size]? = some (.cells (rcs r s).toArray ty_api_Record (0, 0)) → Cells h2 ((⟨h.size, 0, none⟩ : Addr).add 3) [.int .u64 r.ms, .int .i64 r.mf, .int .i64 r.mt, .int .i64 r.mn] := fun r2 => by
    rw [add_off]
    refine Cells.row r2 fun i v hv => ?_
    match i, hv with
    | 0, hv => exact hv
    | 1, hv => exact hv
    | 2, hv => exact hv
    | 3, hv => exact hv
    | i + 4, hv => simp at hv
  refine Ld.i (row_cell r1 rfl) (Br.mk (fun e => ?_) fun e => ?_)
  · have e : r.kind = 1 := by simpa using e
    have k2 : r.kind ≠ 2 := by omega
    refine Ld.u (n := r.seq) (by rw [add_off]; exact row_cell r1 rfl) (Br.mk (fun e2 => ?_) fun e2 => qn (fun ok => ?_) _ x1)
    · refine Ld.chs (v := s) (by rw [add_off]; exact row_cell r1 rfl) (ct_changes' (a.ext x1) hl (fun ok h7 x7 => Br.t rfl ?_) fun nok h7 x7 => Br.f rfl (qn (fun ok => ?_) _ (x1.after x7)))
      · have r7 := (x7.block h.size (by omega)).trans r1
        refine Ld.move (mv r7) (EqP.move (.inl rfl) ?_)
        rw [if_pos rfl]
        by_cases hz : r.ms = 0 ∧ r.mf = 0 ∧ r.mt = 0 ∧ r.mn = 0
        · rw [decide_eq_true hz]; exact qy (.inl ⟨e, by simpa using e2, ok, hz⟩) _ (x1.after x7)
        · rw [decide_eq_false hz]
          exact qn (fun o => o.elim (fun o => hz o.2.2.2) fun o => k2 o.1) _ (x1.after x7)
      · exact ok.elim (fun o => nok o.2.2.1) fun o => k2 o.1
    · exact ok.elim (fun o => by simp only [ge_iff_le, decide_eq_false_iff_not] at e2; exact e2 o.2.1) fun o => k2 o.1
  · have e : r.kind ≠ 1 := by simpa using e
    refine Br.mk (fun e2 => ?_) fun e2 => qn (fun ok => ok.elim (fun o => e o.1) fun o => by rw [o.1] at e2; cases e2) _ x1
    have e2 : r.kind = 2 := by simpa using e2
    refine Ld.u (n := r.seq) (by rw [add_off]; exact row_cell r1 rfl) (Br.mk (fun e3 => ?_) fun e3 => qn (fun ok => ok.elim (fun o => e o.1) fun o => by rw [o.2.1] at e3; cases e3) _ x1)
    refine Ld.chs (v := s) (by rw [add_off]; exact row_cell r1 rfl) (Br.mk (fun e4 => ?_) fun e4 => qn (fun ok => ok.elim (fun o => e o.1) fun o => by rw [a.len, o.2.2.1] at e4; cases e4) _ x1)
    refine Ld.move (mv r1) (ct_moves fun h2 x2 => ?_)
    cases hm : pMove r.ms r.mf r.mt r.mn with
    | true => exact qy (.inr ⟨e2, by simpa using e3, by rw [a.len] at e4; simpa using e4, hm⟩) _ (x1.after x2)
    | false => exact qn (fun ok => ok.elim (fun o => e o.1) fun o => by rw [o.2.2.2] at hm; cases hm) _ (x1.after x2)
end
end Go.Dn.W

set_option linter.unusedVariables false
namespace Go.Dn.W
open Go Go.Dn Go.Proofs

section
variable {h : Mem}
theorem rec_move {kr : Nat} {r : Rc} {s : Sl} (r2 : h[kr]? = some (.cells (rcs r s).toArray ty_api_Record (0, 0))) : Cells h ((⟨kr, 0, none⟩ : Addr).add 3) [.int .u64 r.ms, .int .i64 r.mf, .int .i64 r.mt, .int .i64 r.mn] := by
  rw [add_off]
  refine Cells.row r2 fun i v hv => ?_
  match i, hv with
  | 0, hv => exact hv
  | 1, hv => exact hv
  | 2, hv => exact hv
  | 3, hv => exact hv
  | i + 4, hv => simp at hv

theorem ct_ref10_May {s : Sl} {r : Rc} {l : List Cg} {Q : Bool → Mem → Prop} (a : ChsAt h s l) (hl : l.length ≤ 140737488355328) (hkk : ∀ c ∈ l, c.key.size ≤ 140737488351232) (qy : RecOk r l → ∀ h', Ext h.size h h' → Q true h') (qn : ¬ RecOk r l → ∀ h', Ext h.size h h' → Q false h') :
    CallF PG fn_dunnageref10_May [.agg #[.int .i64 r.kind, .int .u64 r.seq, sval s, .int .u64 r.ms, .int .i64 r.mf, .int .i64 r.mt, .int .i64 r.mn]] (.one (.leaf .bool)) h Q := by
  refine call_dunnageref10_May (New.go fun h1 _ x1 z1 r1 => ?_)
  have r1 : h1[h.size]? = some (.cells (rcs r s).toArray ty_api_Record (0, 0)) := r1
  have hlen := a.len
  have chs : ∀ {h2 : Mem} {K : Sl → Prop}, Ext h1.size h1 h2 → K s → Ld PG ty_sl_api_Change ((⟨h.size, 0, none⟩ : Addr).add 2) (.one (.leaf .sl)) h2 K := fun x2 hk => Ld.chs (v := s) (by rw [add_off]; exact row_cell ((x2.block h.size (by omega)).trans r1) rfl) hk
  refine Ld.i (row_cell r1 rfl) (Br.mk (fun e => ?_) fun e => ?_)
  · have e : r.kind = 1 := by simpa using e
    have k2 : r.kind ≠ 2 := by omega
    refine Ld.u (n := r.seq) (by rw [add_off]; exact row_cell r1 rfl) ?_
    refine ⟨fun b h' => b = (decide (r.seq < 1) || decide ((l.length : Int) < 1)) ∧ h' = h1, ?_, Br.mk (fun e1 => ⟨by rw [e1]; rfl, rfl⟩) fun e1 => chs (Ext.refl _ _) ⟨by rw [e1, hlen]; rfl, rfl⟩⟩
    rintro _ b h8 ⟨rfl, rfl⟩
    refine ⟨fun b h' => b = ((decide (r.seq < 1) || decide ((l.length : Int) < 1)) || decide ((l.length : Int) > 32)) ∧ h' = h8, ?_, Br.mk (fun e1 => ⟨by rw [e1]; rfl, rfl⟩) fun e1 => chs (Ext.refl _ _) ⟨by rw [e1, hlen]; rfl, rfl⟩⟩
    rintro _ b h12 ⟨rfl, rfl⟩
    refine ⟨fun b h' => b = (((decide (r.seq < 1) || decide ((l.length : Int) < 1)) || decide ((l.length : Int) > 32)) || !decide (r.ms = 0 ∧ r.mf = 0 ∧ r.mt = 0 ∧ r.mn = 0)) ∧ h' = h12, ?_, Br.mk (fun e1 => ⟨by rw [e1]; rfl, rfl⟩) fun e1 => Ld.move (rec_move r1) (EqP.move (.inr rfl) ⟨by rw [e1]; rfl, rfl⟩)⟩
    rintro _ b h16 ⟨rfl, rfl⟩
    refine Br.mk (fun e1 => qn (fun ok => ok.elim (fun o => ?_) fun o => k2 o.1) _ x1) fun e1 => ?_
    · obtain ⟨_, h1, h2, h3⟩ := o
      have := h2.1
      have := h2.2.1
      rw [decide_eq_true h3, decide_eq_false (by omega), decide_eq_false (by omega), decide_eq_false (by omega)] at e1
      cases e1
    simp only [Bool.or_eq_false_iff, decide_eq_false_iff_not, Bool.not_eq_false', decide_eq_true_eq] at e1
    obtain ⟨⟨⟨e2, e3⟩, e4⟩, e5⟩ := e1
    refine ⟨fun n h' => ∃ i : Nat, n = (i : Int) ∧ i ≤ l.length ∧ Ext h16.size h16 h' ∧ ChTo l i, fun n _ => l.length - n.toNat, ⟨0, rfl, Nat.zero_le _, Ext.refl _ _, fun j c hj => by omega⟩, ?_⟩
    rintro _ n h21 ⟨i, rfl, hi, x21, ct⟩
    have x021 := x1.after x21
    refine chs x21 (Br.mk (fun e6 => ?_) fun e6 => ?_)
    rotate_left
    · simp only [decide_eq_false_iff_not] at e6
      rw [hlen] at e6
      have : i = l.length := by omega
      subst this
      exact qy (.inl ⟨e, by omega, ⟨by omega, by omega, ct⟩, e5⟩) _ x021
    simp only [decide_eq_true_eq] at e6
    rw [hlen] at e6
    obtain ⟨c, hc⟩ : ∃ c, l[i]? = some c := ⟨_, List.getElem?_eq_getElem (by omega)⟩
    have bad : (pMay c.key = true ∧ tailOk c = true → ∃ p, 0 < i ∧ l[i - 1]? = some p ∧ sLt p.key c.key = false) → ¬ RecOk r l := fun hb' ok => ok.elim (fun o => by
      obtain ⟨h1, h2⟩ := o.2.2.1.2.2 i c (by omega) hc
      obtain ⟨p, hp0, hp, hlt⟩ := hb' h1
      rw [h2 p hp0 hp] at hlt; cases hlt) fun o => k2 o.1
    obtain ⟨ad, ha, hcc⟩ := (a.ext x021).at_ i c hc
    refine chs x21 (Idx.mk ha (by omega) ?_)
    rw [nat_mul]
    refine Ld.cg hcc (New.go fun h31 _ x31 z31 r31 => St.cg r31 rfl fun h32 u32 r32 => ?_)
    have x32 : Ext h21.size h21 h32 := x31.trans (u32.ext (Nat.le_refl _))
    have x032 := x021.after x32
    have x1632 := x21.after x32
    refine Ld.key (row_cell r32 rfl) (ct_ref_May ?_)
    refine ⟨fun b h' => b = (!pMay c.key || (c.del && !tailOk c)) ∧ h' = h32, ?_, Br.mk (fun e7 => ⟨by rw [e7]; rfl, rfl⟩) fun e7 => ?_⟩
    rotate_left
    · refine Ld.flag (cg_flag r32) (Br.mk (fun e8 => Ld.ref (cg_ref r32) (EqP.ref_neq ⟨?_, rfl⟩)) fun e8 => ⟨by rw [e7, e8]; rfl, rfl⟩)
      have et : tailOk c = decide (c.ser = 0 ∧ c.pos = 0 ∧ c.len = 0) := if_pos e8
      rw [e7, e8, ← et]; rfl
    rintro _ b h39 ⟨rfl, rfl⟩
    refine Br.mk (fun e7 => qn (bad fun ⟨h1, h2⟩ => by rw [h1, h2] at e7; simp at e7) _ x032) fun e7 => ?_
    simp only [Bool.or_eq_false_iff, Bool.not_eq_false', Bool.and_eq_false_iff] at e7
    obtain ⟨hmay, hdl⟩ := e7
    -- the key before
    have prev : ∀ {h45 : Mem}, Ext h39.size h39 h45 → tailOk c = true →
        Br (decide ((i : Int) > 0))
          (Ld PG ty_sl_api_Change ((⟨h.size, 0, none⟩ : Addr).add 2) (Kd.one (Cmp.leaf Leaf.sl)) h45 fun (s46 : Sl) =>
            Idx s46.a s46.len (IntKind.i64.wrap ((i : Int) - 1)) fun (p47 : Addr) =>
              Ld PG ty_string (p47.add ((IntKind.i64.wrap ((i : Int) - 1)).toNat * 5)) (Kd.one (Cmp.leaf Leaf.str)) h45 fun (t48 : ByteArray) =>
                Ld PG ty_string ⟨h21.size, 0, none⟩ (Kd.one (Cmp.leaf Leaf.str)) h45 fun (t49 : ByteArray) =>
                  CallF PG fn_dunnageref09_Less [Value.string t48, Value.string t49] (Kd.one (Cmp.leaf Leaf.bool)) h45 fun (b50 : Bool) (h51 : Mem) =>
                    Br (!b50) (Q false h51)
                      ((fun n h' => ∃ i : Nat, n = (i : Int) ∧ i ≤ l.length ∧ Ext h16.size h16 h' ∧ ChTo l i) (IntKind.i64.wrap ((i : Int) + 1)) h51 ∧ (fun (n : Int) (_ : Mem) => l.length - n.toNat) (IntKind.i64.wrap ((i : Int) + 1)) h51 < (fun (n : Int) (_ : Mem) => l.length - n.toNat) (i : Int) h21))
          ((fun n h' => ∃ i : Nat, n = (i : Int) ∧ i ≤ l.length ∧ Ext h16.size h16 h' ∧ ChTo l i) (IntKind.i64.wrap ((i : Int) + 1)) h45 ∧ (fun (n : Int) (_ : Mem) => l.length - n.toNat) (IntKind.i64.wrap ((i : Int) + 1)) h45 < (fun (n : Int) (_ : Mem) => l.length - n.toNat) (i : Int) h21) := fun {h45} x45 ht => by
      have x1645 := x1632.after x45
      have fin : (∀ p, 0 < i → l[i - 1]? = some p → sLt p.key c.key = true) → (fun n h' => ∃ i : Nat, n = (i : Int) ∧ i ≤ l.length ∧ Ext h16.size h16 h' ∧ ChTo l i) (IntKind.i64.wrap ((i : Int) + 1)) h45 ∧ (fun (n : Int) (_ : Mem) => l.length - n.toNat) (IntKind.i64.wrap ((i : Int) + 1)) h45 < (fun (n : Int) (_ : Mem) => l.length - n.toNat) (i : Int) h21 := fun hp => by
        rw [wrap_succ (by omega)]
        exact ⟨⟨i + 1, rfl, by omega, x1645, ct.step hc hmay ht hp⟩, by simp only [Int.toNat_natCast]; omega⟩
      refine Br.mk (fun e8 => ?_) fun e8 => fin fun p hp => ?_
      rotate_left
      · simp only [gt_iff_lt, decide_eq_false_iff_not] at e8; omega
      simp only [gt_iff_lt, decide_eq_true_eq] at e8
      obtain ⟨c', hc'⟩ : ∃ c', l[i - 1]? = some c' := ⟨_, List.getElem?_eq_getElem (by omega)⟩
      obtain ⟨ad2, ha2, hcc2⟩ := (a.ext (x032.after x45)).at_ (i - 1) c' hc'
      rw [i64_eq (n := (i : Int) - 1) (by omega) (by omega), show ((i : Int) - 1) = ((i - 1 : Nat) : Int) by omega]
      refine chs x1645 (Idx.mk ha2 (by omega) ?_)
      rw [nat_mul]
      have r45 := (x45.block h21.size (by have := u32.size; omega)).trans r32
      refine Ld.key (hcc2 0 _ rfl) (Ld.key (row_cell r45 rfl) (ct_ref_Less (hkk c' (List.mem_of_getElem? hc')) (Br.mk (fun e9 => qn (bad fun _ => ⟨c', by omega, hc', by simpa using e9⟩) _ (x032.after x45)) fun e9 => fin fun p _ hp => ?_)))
      rw [hc'] at hp; cases hp
      simpa using e9
    refine Ld.flag (cg_flag r32) (Br.mk (fun e8 => ?_) fun e8 => prev (Ext.refl _ _) ?_)
    · have e8 : c.del = false := by simpa using e8
      have et : tailOk c = pRef c.ser c.pos c.len := if_neg (by rw [e8]; decide)
      refine Ld.ref (cg_ref r32) (ct_MayRef fun h45 x45 => Br.mk (fun e9 => qn (bad fun ⟨_, h2⟩ => by rw [et] at h2; rw [h2] at e9; cases e9) _ (x032.after x45)) fun e9 => prev x45 ?_)
      rw [et]; simpa using e9
    · have e8 : c.del = true := by simpa using e8
      rcases hdl with hd | hd
      · rw [e8] at hd; cases hd
      · exact hd
  · have e : r.kind ≠ 1 := by simpa using e
    refine Br.mk (fun e2 => ?_) fun e2 => qn (fun ok => ok.elim (fun o => e o.1) fun o => by rw [o.1] at e2; cases e2) _ x1
    have e2 : r.kind = 2 := by simpa using e2
    refine Ld.u (n := r.seq) (by rw [add_off]; exact row_cell r1 rfl) (Br.mk (fun e3 => ?_) fun e3 => qn (fun ok => ok.elim (fun o => e o.1) fun o => by rw [o.2.1] at e3; cases e3) _ x1)
    refine chs (Ext.refl _ _) (Br.mk (fun e4 => ?_) fun e4 => qn (fun ok => ok.elim (fun o => e o.1) fun o => by rw [a.len, o.2.2.1] at e4; cases e4) _ x1)
    refine Ld.move (rec_move r1) (ct_MayMove fun h2 x2 => ?_)
    cases hm : pMove r.ms r.mf r.mt r.mn with
    | true => exact qy (.inr ⟨e2, by simpa using e3, by rw [a.len] at e4; simpa using e4, hm⟩) _ (x1.after x2)
    | false => exact qn (fun ok => ok.elim (fun o => e o.1) fun o => by rw [o.2.2.2] at hm; cases hm) _ (x1.after x2)
end
end Go.Dn.W

set_option linter.unusedVariables false
namespace Go.Dn.W
open Go Go.Dn Go.Proofs

def toChg (c : Cg) : Chg := ⟨c.key, c.ser.toNat, c.pos.toNat, c.len.toNat, c.del⟩
theorem toChg_ok {c : Cg} (h1 : pMay c.key = true) (h2 : tailOk c = true) (ht : c.ser ≤ 18446744073709551615) : (toChg c).Ok ∧ chcells (toChg c) = cgcells c := by
  obtain ⟨k, x, y, z, d⟩ := c
  cases d with
  | true =>
    have : x = 0 ∧ y = 0 ∧ z = 0 := by simpa [tailOk] using h2
    obtain ⟨rfl, rfl, rfl⟩ := this
    exact ⟨⟨h1, fun _ => ⟨rfl, rfl, rfl⟩, fun e => by cases e⟩, rfl⟩
  | false =>
    have h2 : pRef x y z = true := h2
    simp only [pRef, Bool.and_eq_true, decide_eq_true_eq] at h2
    have ht : x ≤ 18446744073709551615 := ht
    obtain ⟨x', rfl⟩ := Int.eq_ofNat_of_zero_le (a := x) (by omega)
    obtain ⟨y', rfl⟩ := Int.eq_ofNat_of_zero_le (a := y) (by omega)
    obtain ⟨z', rfl⟩ := Int.eq_ofNat_of_zero_le (a := z) (by omega)
    exact ⟨⟨h1, fun e => (by cases e), fun _ => (show 1 ≤ x' ∧ x' ≤ 18446744073709551615 ∧ y' ≤ 65536 ∧ z' ≤ 4096 by omega)⟩, rfl⟩
theorem ChOk.get {l : List Cg} (ok : ChOk l) {c : Cg} (hc : c ∈ l) : pMay c.key = true ∧ tailOk c = true := by
  obtain ⟨i, hi⟩ := List.getElem?_of_mem hc
  exact (ok.2.2 i c (List.getElem?_eq_some_iff.1 hi).1 hi).1
theorem ChOk.rises {l : List Cg} (ok : ChOk l) : RisesC (l.map toChg) := by
  have key : ∀ (d i : Nat) (p q : Cg), l[i]? = some p → l[i + d + 1]? = some q → sLt p.key q.key = true := by
    intro d
    induction d with
    | zero =>
      intro i p q hp hq
      exact (ok.2.2 (i + 1) q (List.getElem?_eq_some_iff.1 hq).1 hq).2 p (by omega) hp
    | succ d ih =>
      intro i p q hp hq
      have hlt := (List.getElem?_eq_some_iff.1 hq).1
      obtain ⟨m, hm⟩ : ∃ m, l[i + d + 1]? = some m := ⟨_, List.getElem?_eq_getElem (by omega)⟩
      exact sLt_trans (ih i p m hp hm) ((ok.2.2 (i + d + 1 + 1) q hlt hq).2 m (by omega) hm)
  unfold RisesC
  rw [List.pairwise_map, List.pairwise_iff_getElem]
  intro i j hi hj hij
  obtain ⟨d, rfl⟩ : ∃ d, j = i + d + 1 := ⟨j - i - 1, by omega⟩
  exact key d i _ _ (List.getElem?_eq_getElem hi) (List.getElem?_eq_getElem hj)

def recBytes (r : Rc) (l : List Cg) : List UInt8 := if r.kind = 2 then [2] ++ [r.ms.toNat, r.mf.toNat, r.mt.toNat, r.mn.toNat].flatMap varB else recB r.seq.toNat (l.map toChg)

section
variable {h : Mem}
theorem OwnL.toC {B' B : Nat} {s : Sl} {l : List Cg} (x : OwnL ty_api_Change 5 ECg h B' B s l) (ok : ChOk l) (ht : ∀ c ∈ l, c.ser ≤ 18446744073709551615) : OwnL ty_api_Change 5 ECh h B' B s (l.map toChg) := by
  obtain ⟨css, o, hh⟩ := x
  refine ⟨css, o, ⟨by rw [List.length_map]; exact hh.len, hh.width, hh.one, fun i cs c hi hc => ?_⟩⟩
  rw [List.getElem?_map] at hc
  cases hl : l[i]? with
  | none => rw [hl] at hc; cases hc
  | some d =>
    rw [hl] at hc
    cases hc
    obtain ⟨h1, h2⟩ := ok.get (List.mem_of_getElem? hl)
    show cs = chcells (toChg d)
    rw [(toChg_ok h1 h2 (ht d (List.mem_of_getElem? hl))).2]
    exact hh.is i cs d hi hl

theorem ct_Write_move' {s : Sl} {ms mf mt mn : Nat} {Q : Sl → Int → Mem → Prop} (hs : s.len = 0) (hm : pMove ms mf mt mn = true) (h1 : ms ≤ 18446744073709551615) (q : ∀ s' h', Ext h.size h h' → OwnB h' h.size ty_uint8 s' ([2] ++ [ms, mf, mt, mn].flatMap varB) → Q s' 0 h') :
    CallF PG fn_batch_Write [.agg #[.int .i64 2, .int .u64 0, sval s, .int .u64 ms, .int .i64 mf, .int .i64 mt, .int .i64 mn]] (.tup [.leaf .sl, .leaf (.int .i64)]) h Q := by
  have hb : mf ≤ 65536 ∧ mt ≤ 65536 ∧ mn ≤ 65536 := by
    simp only [pMove, Bool.and_eq_true, decide_eq_true_eq] at hm
    omega
  refine call_batch_Write (r_0 := 2) (r_1 := 0) (r_2 := s) (New.go fun g1 _ x1 z1 r1 => ?_)
  refine Ld.rec (s := s) (Cells.whole (cs := rcells 2 0 s ms mf mt mn) r1) (ct_May_move hs fun g2 x2 => Br.f (by rw [hm]; rfl) ?_)
  have r2 := (x2.block h.size (by omega)).trans r1
  refine Ld.i (n := 2) (row_cell r2 rfl) (New.go fun g3 _ x3 z3 r3 => New.go fun g4 _ x4 z4 r4 => ?_)
  have z2 := x2.size
  have x24 := x3.after x4
  have r4' := (x24.block h.size (by omega)).trans r2
  refine Ld.i (n := 2) (row_cell r4' rfl) (Ld.rec (s := s) (Cells.whole (cs := rcells 2 0 s ms mf mt mn) r4') (ct_writers fun g5 x5 => ?_))
  have r5 := (x5.block h.size (by omega)).trans r4'
  refine ⟨Ld.rec (s := s) (Cells.whole (cs := rcells 2 0 s ms mf mt mn) r5) rfl, Ld.i (n := 2) (row_cell r5 rfl) rfl, pick2 (callV_fn ?_)⟩
  have r35 : g5[g2.size]? = some (.cells #[bcell 2] ty_uint8 (0, 0)) := ((x4.after x5).block g2.size (by omega)).trans r3
  have z5 := x5.size
  have p5 : PenAt g5 g3.size ⟨some ⟨g2.size, 0, none⟩, 1, 1⟩ (.int .i64 0) (.int .i64 0) := (x5.block g3.size (by omega)).trans r4
  have o5 : OwnB g5 h.size ty_uint8 ⟨some ⟨g2.size, 0, none⟩, 1, 1⟩ [2] := ⟨rfl, .inr ⟨g2.size, 1, _, rfl, by omega, r35, Nat.le_refl _, by decide, rfl, rfl⟩⟩
  refine ct_pen_move (by omega) p5 o5 h1 hb.1 hb.2.1 hb.2.2 (by simp) fun s' g6 p6 o6 x6 k6 => ?_
  refine Ld.bytes (row_cell p6 rfl) (q s' g6 ?_ o6)
  exact x1.trans ((x2.after (x24.after x5)).less (by omega)) |>.trans x6

/-- numbers that a record bears -/
theorem RecOk.move {r : Rc} {l : List Cg} (ok : RecOk r l) (hk : r.kind = 2) (ht : r.ms ≤ 18446744073709551615) : ∃ ms mf mt mn : Nat, r = ⟨2, 0, ms, mf, mt, mn⟩ ∧ l = [] ∧ pMove ms mf mt mn = true ∧ ms ≤ 18446744073709551615 := by
  rcases ok with o | ⟨_, h2, h3, h4⟩
  · omega
  obtain ⟨k, s, a, b, c, d⟩ := r
  simp only at hk h2 ht
  subst hk h2
  have h4' := h4
  simp only [pMove, Bool.and_eq_true, decide_eq_true_eq] at h4'
  obtain ⟨a', rfl⟩ := Int.eq_ofNat_of_zero_le (a := a) (by omega)
  obtain ⟨b', rfl⟩ := Int.eq_ofNat_of_zero_le (a := b) (by omega)
  obtain ⟨c', rfl⟩ := Int.eq_ofNat_of_zero_le (a := c) (by omega)
  obtain ⟨d', rfl⟩ := Int.eq_ofNat_of_zero_le (a := d) (by omega)
  exact ⟨a', b', c', d', rfl, List.eq_nil_of_length_eq_zero h3, h4, by omega⟩
theorem RecOk.batch {r : Rc} {l : List Cg} (ok : RecOk r l) (hk : r.kind ≠ 2) (ht : r.seq ≤ 18446744073709551615) : ∃ seq : Nat, r = ⟨1, seq, 0, 0, 0, 0⟩ ∧ 1 ≤ seq ∧ seq ≤ 18446744073709551615 ∧ ChOk l := by
  rcases ok with ⟨h1, h2, h3, h4, h5, h6, h7⟩ | o
  · obtain ⟨k, s, a, b, c, d⟩ := r
    simp only at h1 h2 h4 h5 h6 h7 ht
    subst h1 h4 h5 h6 h7
    obtain ⟨s', rfl⟩ := Int.eq_ofNat_of_zero_le (a := s) (by omega)
    exact ⟨s', rfl, by omega, by omega, h3⟩
  · exact absurd o.1 hk

theorem ct_Write' {B' B : Nat} {s : Sl} {r : Rc} {l : List Cg} {Q : Sl → Int → Mem → Prop} (o : OwnL ty_api_Change 5 ECg h B B s l) (hl : l.length ≤ 140737488355328) (hs : r.seq ≤ 18446744073709551615) (hm : r.ms ≤ 18446744073709551615) (ht : ∀ c ∈ l, c.ser ≤ 18446744073709551615)
    (qy : RecOk r l → ∀ s' h', Ext h.size h h' → OwnB h' h.size ty_uint8 s' (recBytes r l) → Q s' 0 h') (qn : ¬ RecOk r l → ∀ h', Ext h.size h h' → Q ⟨none, 0, 0⟩ 11 h') :
    CallF PG fn_batch_Write [.agg #[.int .i64 r.kind, .int .u64 r.seq, sval s, .int .u64 r.ms, .int .i64 r.mf, .int .i64 r.mt, .int .i64 r.mn]] (.tup [.leaf .sl, .leaf (.int .i64)]) h Q := by
  by_cases ok : RecOk r l
  · have qy := qy ok
    by_cases hk : r.kind = 2
    · obtain ⟨ms, mf, mt, mn, rfl, rfl, h3, h4⟩ := ok.move hk hm
      exact ct_Write_move' (o.len (by decide)) h3 h4 qy
    · obtain ⟨seq, rfl, h2, h3, h4⟩ := ok.batch hk hs
      refine ct_Write_batch (o.toC h4 ht) (fun c hc => ?_) h4.rises (by rw [List.length_map]; exact h4.1) (by rw [List.length_map]; exact h4.2.1) h2 h3 qy
      obtain ⟨d, hd, rfl⟩ := List.mem_map.1 hc
      obtain ⟨a1, a2⟩ := h4.get hd
      exact (toChg_ok a1 a2 (ht d hd)).1
  · refine call_batch_Write (New.go fun g1 _ x1 z1 r1 => ?_)
    exact Ld.rec (s := s) (Cells.whole (cs := rcs r s) r1) (ct_May' ((o.ext ECg.stab x1).chs) hl (fun ok' => absurd ok' ok) fun _ g2 x2 => Br.t rfl (qn ok _ (x1.after x2)))

/-! ### the document's -/
theorem ct_ref_nums {k n : Nat} {e : TypeId} {ns : List Nat} {Q : Sl → Mem → Prop} (hr : h[k]? = some (.cells (ns.map fun n : Nat => Value.int .u64 (n : Int)).toArray e (0, 0))) (hn : n = ns.length) (hm : ∀ m ∈ ns, m ≤ 18446744073709551615) (hs : ns.length ≤ 1000)
    (q : ∀ s' h', Ext h.size h h' → OwnB h' h.size ty_uint8 s' (ns.flatMap varB) → Q s' h') : CallF PG fn_dunnageref10_nums [.slice (some ⟨k, 0, none⟩) n n] (.one (.leaf .sl)) h Q := by
  refine call_dunnageref10_nums (l := ⟨some ⟨k, 0, none⟩, n, n⟩) ?_
  have hlen : ∀ i, i ≤ ns.length → ((ns.take i).flatMap varB).length ≤ i * 10 := by
    intro i hi
    induction i with
    | zero => simp
    | succ i ih =>
      obtain ⟨m, hm'⟩ : ∃ m, ns[i]? = some m := ⟨_, List.getElem?_eq_getElem (by omega)⟩
      rw [List.take_add_one, hm', List.flatMap_append]
      have h1 := ih (by omega)
      have h2 := varB_le (hm m (List.mem_of_getElem? hm'))
      simp only [List.length_append, Option.toList_some, List.flatMap_cons, List.flatMap_nil, List.append_nil]
      omega
  refine ⟨fun s' v h' => ∃ i : Nat, v = (i : Int) ∧ i ≤ ns.length ∧ OwnB h' h.size ty_uint8 s' ((ns.take i).flatMap varB) ∧ Ext h.size h h', fun _ v _ => ns.length - v.toNat, ⟨0, rfl, Nat.zero_le _, Owns.nil _ _ _ _, Ext.refl _ _⟩, ?_⟩
  rintro _ s' v h5 ⟨i, rfl, hi, o5, x5⟩
  refine Br.mk (fun e1 => ?_) fun e1 => ?_
  · have e1 : (i : Int) < (n : Int) := by simpa using e1
    obtain ⟨m, hm'⟩ : ∃ m, ns[i]? = some m := ⟨_, List.getElem?_eq_getElem (by omega)⟩
    have hmm := hm m (List.mem_of_getElem? hm')
    have r5 := (x5.block k (Array.getElem?_eq_some_iff.1 hr).1).trans hr
    refine Idx.mk rfl (show i < n by omega) ?_
    rw [nat_mul]
    refine Ld.u (n := (m : Int)) (by rw [add_off]; exact row_cell r5 (by simp [hm'])) (ct_ref_Var hmm fun s9 h10 x10 o10 => ?_)
    have h1 := hlen i hi
    have h2 := varB_le hmm
    refine append_bytes (Nat.le_trans x5.size x10.size) (Owns.ext o5 x10) o10.bytes (by omega) fun s11 h12 o12 g => ?_
    rw [wrap_succ (by omega)]
    refine ⟨⟨i + 1, rfl, by omega, ?_, x5.trans ((x10.less x5.size).trans (Owns.grownExt (Owns.ext o5 x10) (Nat.le_trans x5.size x10.size) g))⟩, by simp only [Int.toNat_natCast]; omega⟩
    rw [List.take_add_one, hm', List.flatMap_append]
    simpa using o12
  · have e1 : ¬ (i : Int) < (n : Int) := by simpa using e1
    have : i = ns.length := by omega
    rw [this, List.take_length] at o5
    exact q _ _ x5 o5
theorem ct_ref_Text {s : Sl} {l : List UInt8} {Q : Sl → Mem → Prop} (b : BytesSl h s l) (hl : l.length ≤ 1000000) (q : ∀ s' h', Ext h.size h h' → OwnB h' h.size ty_uint8 s' (varB l.length ++ l) → Q s' h') : CallF PG fn_dunnageref01_Text [sval s] (.one (.leaf .sl)) h Q := by
  refine call_dunnageref01_Text ?_
  unfold wp_dunnageref01_Text
  have e : IntKind.u64.wrap (s.len : Int) = (l.length : Int) := by rw [b.len, u64_eq (by omega)]
  rw [e]
  have hv := varB_le (n := l.length) (by omega)
  refine ct_ref_Var (by omega) fun s1 h2 x2 o2 => ?_
  refine append_bytes x2.size o2 (b.ext x2) (by omega) fun s3 h4 o4 g => q _ _ ?_ o4
  exact x2.trans (Owns.grownExt o2 x2.size g)
end
end Go.Dn.W

set_option linter.unusedVariables false
namespace Go.Dn.W
open Go Go.Dn Go.Proofs

section
variable {h : Mem}
theorem own_byte {B b : Nat} {u : UInt8} (hB : B ≤ b) (hb : h[b]? = some (.cells #[bcell u] ty_uint8 (0, 0))) : OwnB h B ty_uint8 ⟨some ⟨b, 0, none⟩, 1, 1⟩ [u] := ⟨rfl, .inr ⟨b, 1, _, rfl, hB, hb, Nat.le_refl _, by decide, rfl, rfl⟩⟩

/-- a byte is put behind; rows of other things stand -/
theorem push_byte' {B : Nat} {s : Sl} {xs : List UInt8} {x : Value} {u : UInt8} (hx : x = bcell u) (hB : B ≤ h.size) (o : OwnB h B ty_uint8 s xs) (hs : xs.length + 1 ≤ 140737488355328) {K : Sl → Mem → Prop}
    (hk : ∀ s' h', OwnB h' B ty_uint8 s' (xs ++ [u]) → Ext B h h' → (∀ (j : Nat) (c : Array Value) (e : TypeId) (fz : Nat × Nat), e ≠ ty_uint8 → h[j]? = some (.cells c e fz) → h'[j]? = some (.cells c e fz)) → K s' h') :
    New (Obj.cells #[x] ty_uint8) h fun (k7 : Nat) (h8 : Mem) =>
      PrimT PG (Builtin.append_ #[ty_sl_uint8, ty_sl_uint8] ty_sl_uint8 #[Value.slice s.a s.len s.cap, Value.slice (some (Addr.mk k7 0 none)) 1 1]) (Kd.one (Cmp.leaf Leaf.sl)) h8 K := by
  subst hx
  refine New.go fun h1 _ x1 z1 r1 => ?_
  refine append_bytes (v := ⟨some ⟨h.size, 0, none⟩, 1, 1⟩) (Nat.le_trans hB x1.size) (Owns.ext o x1) (one_byte r1) hs fun s' h' o' g => hk s' h' o' ((x1.less hB).trans ?_) fun j c e fz he hc => ?_
  · exact Owns.grownExt (Owns.ext o x1) (Nat.le_trans hB x1.size) g
  · exact Grown.other g (Owns.ext o x1) he ((x1.block j (Array.getElem?_eq_some_iff.1 hc).1).trans hc)

theorem ct_ref10_Write {s : Sl} {r : Rc} {l : List Cg} {Q : Sl → Int → Mem → Prop} (a : ChsAt h s l) (hl : l.length ≤ 140737488355328) (hkk : ∀ c ∈ l, c.key.size ≤ 140737488351232) (hs : r.seq ≤ 18446744073709551615) (hm : r.ms ≤ 18446744073709551615) (ht : ∀ c ∈ l, c.ser ≤ 18446744073709551615)
    (qy : RecOk r l → ∀ s' h', Ext h.size h h' → OwnB h' h.size ty_uint8 s' (recBytes r l) → Q s' 0 h') (qn : ¬ RecOk r l → ∀ h', Ext h.size h h' → Q ⟨none, 0, 0⟩ 11 h') :
    CallF PG fn_dunnageref10_Write [.agg #[.int .i64 r.kind, .int .u64 r.seq, sval s, .int .u64 r.ms, .int .i64 r.mf, .int .i64 r.mt, .int .i64 r.mn]] (.tup [.leaf .sl, .leaf (.int .i64)]) h Q := by
  refine call_dunnageref10_Write (New.go fun g1 _ x1 z1 r1 => ?_)
  refine Ld.rec (s := s) (Cells.whole (cs := rcs r s) r1) (ct_ref10_May (a.ext x1) hl hkk (fun ok g2 x2 => Br.f rfl ?_) fun nok g2 x2 => Br.t rfl (qn nok _ (x1.after x2)))
  have r1 : g1[h.size]? = some (.cells (rcs r s).toArray ty_api_Record (0, 0)) := r1
  have r2 := (x2.block h.size (by omega)).trans r1
  have x02 := x1.after x2
  have z2 := x2.size
  have qy := qy ok
  refine Ld.i (row_cell r2 rfl) (Br.mk (fun e => ?_) fun e => ?_)
  · have e : r.kind = 2 := by simpa using e
    obtain ⟨ms, mf, mt, mn, rfl, rfl, h3, h4⟩ := ok.move e hm
    have hb : mf ≤ 65536 ∧ mt ≤ 65536 ∧ mn ≤ 65536 := by
      simp only [pMove, Bool.and_eq_true, decide_eq_true_eq] at h3
      omega
    refine New.go fun g3 _ x3 z3 r3 => ?_
    have r23 := (x3.block h.size (by omega)).trans r2
    refine Ld.u (n := (ms : Int)) (by rw [add_off]; exact row_cell r23 rfl) (Ld.i (n := (mf : Int)) (by rw [add_off, add_off]; exact row_cell r23 rfl) (Ld.i (n := (mt : Int)) (by rw [add_off, add_off]; exact row_cell r23 rfl) (Ld.i (n := (mn : Int)) (by rw [add_off, add_off]; exact row_cell r23 rfl) ?_)))
    rw [u64_eq (n := mf) (by omega), u64_eq (n := mt) (by omega), u64_eq (n := mn) (by omega)]
    refine New.go fun g4 _ x4 z4 r4 => ?_
    refine ct_ref_nums (ns := [ms, mf, mt, mn]) r4 rfl (by intro m hm'; simp only [List.mem_cons, List.not_mem_nil, or_false] at hm'; rcases hm' with rfl | rfl | rfl | rfl <;> omega) (by simp) fun s5 g5 x5 o5 => ?_
    have r35 : g5[g2.size]? = some (.cells #[bcell 2] ty_uint8 (0, 0)) := ((x4.after x5).block g2.size (by omega)).trans r3
    have x05 := x02.after (x3.after (x4.after x5))
    have ob : OwnB g5 h.size ty_uint8 ⟨some ⟨g2.size, 0, none⟩, 1, 1⟩ [2] := own_byte (by omega) r35
    have v : ([ms, mf, mt, mn].flatMap varB).length ≤ 40 := by
      have a1 := varB_le h4
      have a2 := varB_le (n := mf) (by omega)
      have a3 := varB_le (n := mt) (by omega)
      have a4 := varB_le (n := mn) (by omega)
      simp only [List.flatMap_cons, List.flatMap_nil, List.length_append, List.length_nil]; omega
    refine append_bytes x05.size ob o5.bytes (by simp only [List.length_cons, List.length_nil]; omega) fun s6 g6 o6 g => qy s6 g6 (x05.trans (Owns.grownExt ob x05.size g)) ?_
    exact o6
  · have e : r.kind ≠ 2 := by simpa using e
    obtain ⟨seq, rfl, h2, h3, h4⟩ := ok.batch e hs
    have hl32 := h4.2.1
    have e0 : recBytes ⟨1, seq, 0, 0, 0, 0⟩ l = [1] ++ [seq, l.length].flatMap varB ++ (l.map toChg).flatMap chB := by
      show recB ((seq : Int).toNat) (l.map toChg) = _
      rw [Int.toNat_natCast]; unfold recB; rw [List.length_map]
    rw [e0] at qy
    refine New.go fun g3 _ x3 z3 r3 => ?_
    have r23 := (x3.block h.size (by omega)).trans r2
    refine Ld.u (n := (seq : Int)) (by rw [add_off]; exact row_cell r23 rfl) (Ld.chs (v := s) (by rw [add_off]; exact row_cell r23 rfl) ?_)
    rw [a.len, u64_eq (n := l.length) (by omega)]
    refine New.go fun g4 _ x4 z4 r4 => ?_
    refine ct_ref_nums (ns := [seq, l.length]) r4 rfl (by intro m hm'; simp only [List.mem_cons, List.not_mem_nil, or_false] at hm'; rcases hm' with rfl | rfl <;> omega) (by simp) fun s5 g5 x5 o5 => ?_
    have r35 : g5[g2.size]? = some (.cells #[bcell 1] ty_uint8 (0, 0)) := ((x4.after x5).block g2.size (by omega)).trans r3
    have x25 : Ext g2.size g2 g5 := x3.after (x4.after x5)
    have ob : OwnB g5 g2.size ty_uint8 ⟨some ⟨g2.size, 0, none⟩, 1, 1⟩ [1] := own_byte (Nat.le_refl _) r35
    have v : ([seq, l.length].flatMap varB).length ≤ 20 := by
      have a1 := varB_le h3
      have a2 := varB_le (n := l.length) (by omega)
      simp only [List.flatMap_cons, List.flatMap_nil, List.length_append, List.length_nil]; omega
    refine append_bytes x25.size ob o5.bytes (by simp only [List.length_cons, List.length_nil]; omega) fun s6 g6 o6 g => ?_
    have x26 : Ext g2.size g2 g6 := x25.trans (Owns.grownExt ob x25.size g)
    refine ⟨fun t n h' => ∃ i : Nat, n = (i : Int) ∧ i ≤ l.length ∧ OwnB h' g2.size ty_uint8 t ([1] ++ [seq, l.length].flatMap varB ++ ((l.map toChg).take i).flatMap chB) ∧ Ext g2.size g2 h', fun _ n _ => l.length - n.toNat, ⟨0, rfl, Nat.zero_le _, by simpa using o6, x26⟩, ?_⟩
    rintro _ t n h40 ⟨i, rfl, hi, o40, x40⟩
    have chs : ∀ {h2 : Mem} {K : Sl → Prop}, Ext g2.size g2 h2 → K s → Ld PG ty_sl_api_Change ((⟨h.size, 0, none⟩ : Addr).add 2) (.one (.leaf .sl)) h2 K := fun x2' hk => Ld.chs (v := s) (by rw [add_off]; exact row_cell ((x2'.block h.size (by omega)).trans r2) rfl) hk
    have okm : ∀ c ∈ l.map toChg, c.Ok := fun c hc => by
      obtain ⟨d, hd, rfl⟩ := List.mem_map.1 hc
      obtain ⟨a1, a2⟩ := h4.get hd
      exact (toChg_ok a1 a2 (ht d hd)).1
    refine chs x40 (Br.mk (fun e1 => ?_) fun e1 => ?_)
    rotate_left
    · simp only [decide_eq_false_iff_not] at e1
      rw [a.len] at e1
      have : i = l.length := by omega
      rw [this, ← List.length_map (f := toChg), List.take_length] at o40
      rw [List.length_map] at o40
      exact qy _ _ (x02.after x40) (Owns.base o40 x02.size)
    simp only [decide_eq_true_eq] at e1
    rw [a.len] at e1
    obtain ⟨c, hc⟩ : ∃ c, l[i]? = some c := ⟨_, List.getElem?_eq_getElem (by omega)⟩
    have hcm := List.mem_of_getElem? hc
    obtain ⟨a1, a2⟩ := h4.get hcm
    obtain ⟨okc, ecc⟩ := toChg_ok a1 a2 (ht c hcm)
    have hcn : (l.map toChg)[i]? = some (toChg c) := by rw [List.getElem?_map, hc]; rfl
    have hks : c.key.size ≤ 64 := pMay_size a1
    have hsum := chB_sum (l := (l.map toChg).take i) fun c hc => okm c (List.mem_of_mem_take hc)
    rw [List.length_take, List.length_map, Nat.min_eq_left hi] at hsum
    obtain ⟨ad, ha, hcc⟩ := (a.ext (x02.after x40)).at_ i c hc
    have zB := x40.size
    refine chs x40 (Idx.mk ha (by rw [a.len]; omega) ?_)
    rw [nat_mul]
    refine Ld.cg hcc (New.go fun h50 _ x50 z50 r50 => St.cg r50 rfl fun h51 u51 r51 => ?_)
    have x51 : Ext h40.size h40 h51 := x50.trans (u51.ext (Nat.le_refl _))
    have z51 := u51.size
    refine Ld.key (row_cell r51 rfl) (prim_bytes (e := ty_uint8) (by kernel_rfl) (by kernel_rfl) (by kernel_rfl) fun cap obj hcap hob => ?_)
    generalize h54e : h51.push obj = h54
    have x54 : Ext h51.size h51 h54 := h54e ▸ Ext.push _ _ (Nat.le_refl _)
    have hkl : c.key.toList.length = c.key.size := length_toList _
    have b54 : BytesSl h54 ⟨some ⟨h51.size, 0, none⟩, c.key.size, cap⟩ c.key.toList := by
      refine ⟨hkl.symm, fun j b hb => ?_, fun hn => by cases hn⟩
      subst hob
      rw [← h54e, add_off]
      exact row_cell (push_get_size _ _) (by rw [Nat.zero_add]; exact bytesRow_get _ _ hb)
    refine ct_ref_Text b54 (by omega) fun s55 h56 x56 o56 => ?_
    have x4056 : Ext h40.size h40 h56 := x51.after (x54.after x56)
    have hvk := varB_le (n := c.key.toList.length) (by omega)
    have o40' := Owns.ext o40 x4056
    have zz : g2.size ≤ h56.size := Nat.le_trans zB x4056.size
    have hb0 : ([1] ++ [seq, l.length].flatMap varB ++ ((l.map toChg).take i).flatMap chB).length ≤ 4000 := by
      simp only [List.length_append, List.length_cons, List.length_nil] at v hsum ⊢; omega
    refine append_bytes zz o40' o56.bytes (by rw [List.length_append (bs := c.key.toList)]; omega) fun s57 h58 o58 g58 => ?_
    have xg : Ext g2.size h56 h58 := Owns.grownExt o40' zz g58
    have r58 : h58[h40.size]? = some (.cells (cgcells c).toArray ty_api_Change (0, 0)) := Grown.other g58 o40' (by decide) (((x54.after x56).block h40.size (by omega)).trans r51)
    rw [← ecc] at r58
    have x4058 : Ext g2.size h40 h58 := (x4056.less zB).trans xg
    have z58 : g2.size ≤ h58.size := Nat.le_trans zz xg.size
    have fin : ∀ s' h', OwnB h' g2.size ty_uint8 s' (([1] ++ [seq, l.length].flatMap varB ++ ((l.map toChg).take i).flatMap chB) ++ chB (toChg c)) → Ext g2.size h58 h' →
        (fun t n h' => ∃ i : Nat, n = (i : Int) ∧ i ≤ l.length ∧ OwnB h' g2.size ty_uint8 t ([1] ++ [seq, l.length].flatMap varB ++ ((l.map toChg).take i).flatMap chB) ∧ Ext g2.size g2 h') (⟨s'.a, s'.len, s'.cap⟩ : Sl) (IntKind.i64.wrap ((i : Int) + 1)) h' ∧ (fun (_ : Sl) (n : Int) (_ : Mem) => l.length - n.toNat) ⟨s'.a, s'.len, s'.cap⟩ (IntKind.i64.wrap ((i : Int) + 1)) h' < (fun (_ : Sl) (n : Int) (_ : Mem) => l.length - n.toNat) t (i : Int) h40 := fun s' h' o' x' => by
      rw [wrap_succ (by omega)]
      refine ⟨⟨i + 1, rfl, by omega, ?_, x40.trans (x4058.trans x')⟩, by simp only [Int.toNat_natCast]; omega⟩
      rw [List.take_add_one, hcn, List.flatMap_append, ← List.append_assoc]
      simpa using o'
    have hb58 : ([1] ++ [seq, l.length].flatMap varB ++ ((l.map toChg).take i).flatMap chB ++ (varB c.key.toList.length ++ c.key.toList)).length ≤ 5000 := by
      rw [List.length_append, List.length_append (bs := c.key.toList)]; omega
    have cf : cellAt h58 ((⟨h40.size, 0, none⟩ : Addr).add 4) = some (.bool c.del) := by rw [add_off]; exact row_cell r58 rfl
    refine Ld.flag cf (Br.mk (fun e2 => ?_) fun e2 => ?_)
    · refine push_byte' (u := 1) rfl z58 o58 (by omega) fun s' h' o' x' _ => fin s' h' ?_ x'
      have e : chB (toChg c) = (varB c.key.toList.length ++ c.key.toList) ++ [1] := by
        have e2' : (toChg c).del = true := e2
        unfold chB; rw [e2', hkl]; rfl
      rw [e, ← List.append_assoc]; exact o'
    · have e2' : (toChg c).del = false := e2
      obtain ⟨e3, e4, e5, e6⟩ := okc.ref e2'
      refine push_byte' (u := 0) rfl z58 o58 (by omega) fun s66 h67 o66 x67 k67 => ?_
      have r67 := k67 h40.size _ _ _ (by decide) r58
      refine Ld.u (n := ((toChg c).ser : Int)) (by rw [add_off]; exact row_cell r67 rfl) (Ld.i (n := ((toChg c).pos : Int)) (by rw [add_off, add_off]; exact row_cell r67 rfl) (Ld.i (n := ((toChg c).len : Int)) (by rw [add_off, add_off]; exact row_cell r67 rfl) ?_))
      rw [u64_eq (n := (toChg c).pos) (by omega), u64_eq (n := (toChg c).len) (by omega)]
      refine New.go fun h72 _ x72 z72 r72 => ?_
      refine ct_ref_nums (ns := [(toChg c).ser, (toChg c).pos, (toChg c).len]) r72 rfl (by intro m hm'; simp only [List.mem_cons, List.not_mem_nil, or_false] at hm'; rcases hm' with rfl | rfl | rfl <;> omega) (by simp) fun s73 h74 x74 o74 => ?_
      have z67 : g2.size ≤ h67.size := Nat.le_trans z58 x67.size
      have x6774 : Ext h67.size h67 h74 := x72.after x74
      have ob := Owns.ext o66 x6774
      have v3 : ([(toChg c).ser, (toChg c).pos, (toChg c).len].flatMap varB).length ≤ 30 := by
        have b1 := varB_le e4
        have b2 := varB_le (n := (toChg c).pos) (by omega)
        have b3 := varB_le (n := (toChg c).len) (by omega)
        simp only [List.flatMap_cons, List.flatMap_nil, List.length_append, List.length_nil]; omega
      refine append_bytes (Nat.le_trans z67 x6774.size) ob o74.bytes (by rw [List.length_append (bs := [0])]; show _ + 1 + _ ≤ _; omega) fun s75 h76 o76 g76 => fin s75 h76 ?_ (x67.trans ((x6774.less z67).trans (Owns.grownExt ob (Nat.le_trans z67 x6774.size) g76)))
      have e : chB (toChg c) = (varB c.key.toList.length ++ c.key.toList) ++ ([0] ++ [(toChg c).ser, (toChg c).pos, (toChg c).len].flatMap varB) := by
        unfold chB; rw [e2', hkl]; rfl
      rw [e, ← List.append_assoc, ← List.append_assoc]; exact o76
end
end Go.Dn.W
