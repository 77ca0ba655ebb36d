/- A row of operations is sorted by their keys. -/
import Derived.Test.YtemelcaoepaoiaaDnMap
import Derived.Test.YtemelcaoepaoiaaDnSrtS
import Derived.Shelf.SlSortCmp.WholeK
import Derived.Shelf.SlSortCmp.NoneTotal
set_option linter.unusedVariables false
namespace Go.Dn.W
open Go Go.Dn Go.Proofs Go.Shelf Go.Sort Go.RowKit Go.Lib

instance : Inhabited Opn := ⟨⟨⟨#[]⟩, [], false⟩⟩
instance : Inhabited Sl := ⟨⟨none, 0, 0⟩⟩
/-- an operation, and where its value lies -/
abbrev OpV : Type := Opn × Sl
def encV (x : OpV) : List Value := ocells x.1.key x.2 x.1.del
def cfV (x y : OpV) : Int := Lib.compareBytes x.1.key.data.toList y.1.key.data.toList
theorem cfV_eq (x y : OpV) : cfV x y = cmp3 x.1.key y.1.key := by
  unfold cfV
  rw [compareBytes_eq, ← toList_data, ← toList_data]
  unfold cmp3 sLt
  by_cases e : x.1.key = y.1.key
  · rw [e]; simp
  · have : x.1.key.toList ≠ y.1.key.toList := fun h' => e (toList_inj h')
    simp [e, this]
theorem ltV (x y : OpV) : ltOf cfV x y = sLt x.1.key y.1.key := by unfold ltOf; rw [cfV_eq, cmp3_neg]
theorem swoV : SWO (ltOf cfV) where
  irrefl x := by rw [ltV]; exact sLt_irrefl _
  trans x y z h1 h2 := by rw [ltV] at *; exact sLt_trans h1 h2
  ntrans x y z h1 h2 := by
    rw [ltV] at *
    cases h : sLt x.1.key z.1.key with
    | false => rfl
    | true => rw [sLt_of_lt_of_le h h2] at h1; cases h1

/-- a contract of the kit's, said of the heap -/
theorem callF_calls {f : FuncId} {args : List Value} {kd : Kd} {h : Mem} {K : Cur (Mem → Prop) kd.leaves} (he : ∀ a w, (callFunc f a).run PG w = .ok (.enter f a) w)
    (hc : ∀ w : World, w.heap = h → Calls PG f args.toArray w fun e w' => ∃ v, e = .returned v ∧ Same w w' ∧ Fits (fun k => k w'.heap) kd v K) : CallF PG f args kd h K := by
  intro w hw
  rw [he]
  exact FrDoes.of_calls (hc w hw)

theorem enters110 : ∀ a w, (callFunc 110 a).run PG w = .ok (.enter 110 a) w := by rw [PG_eq]; exact enters_of Try.func110 (by kernel_rfl) rfl
theorem enters111 : ∀ a w, (callFunc 111 a).run Try.prog w = .ok (.enter 111 a) w := enters_of Try.func111 (by kernel_rfl) rfl

theorem closureV (x y : OpV) (W : World) : Calls Try.prog 111 #[.agg #[.string x.1.key, .slice x.2.a x.2.len x.2.cap, .bool x.1.del], .agg #[.string y.1.key, .slice y.2.a y.2.len y.2.cap, .bool y.1.del]] W fun e w' => e = .returned (.int .i64 (cfV x y)) ∧ ∃ q os', w' = grow (W.drewN q) os' := by
  have hcon := fun W' => Try.strings_Compare x.1.key y.1.key W'
  change ∀ W', Calls Try.prog 112 _ _ _ at hcon
  unfold cfV
  generalize Lib.compareBytes x.1.key.data.toList y.1.key.data.toList = r at hcon ⊢
  go_enter Try.func111, Try.ntmps111
  go_wp2_with (go_at_call 112; refine (hcon _).mono ?_; rintro e w' ⟨rfl, rfl⟩)
  go_ret
  exact ⟨rfl, 0, _, by rw [alloc_eq_grow, alloc_eq_grow, grow_grow]; rfl⟩
theorem cmpLaysV (blk off size : Nat) (w : World) : CmpLays Try.prog 111 #[] encV 3 cfV blk off size w := fun _ _ _ _ x y => closureV x y _

theorem isAggV : ∀ w, (isAgg 65).run Try.prog w = .ok true w := fun w => by
  obtain ⟨d, hd⟩ := und_op
  rw [← PG_eq, run_isAgg hd, agg_op]
theorem sizeOfV : ∀ w, (Go.sizeOf 65).run Try.prog w = .ok 3 w := fun w => by
  rw [← PG_eq, run_szOf (by rw [show szOf PG 65 = 3 from sz_op]; decide)]; rw [show szOf PG 65 = 3 from sz_op]

/-! ### the row of cells and the list of its elements -/

theorem flatK_toList {d : Array OpV} : (flatK encV 3 d).toList = (d.toList.map encV).flatten := by
  have hw : ∀ cs ∈ d.toList.map encV, cs.length = 3 := by
    intro cs hcs
    obtain ⟨x, _, rfl⟩ := List.mem_map.1 hcs
    rfl
  refine List.ext_getElem? fun t => ?_
  by_cases ht : t < d.size * 3
  · have h1 : t / 3 < d.size := by omega
    have h2 : (d.toList.map encV)[t / 3]? = some (encV d[t / 3]!) := by
      rw [List.getElem?_map, Array.getElem?_toList, Array.getElem?_eq_getElem h1, getElem!_pos d _ h1]; rfl
    have h3 : (encV d[t / 3]!)[t % 3]? = some (encV d[t / 3]!)[t % 3]! := by
      have : t % 3 < (encV d[t / 3]!).length := Nat.mod_lt _ (by decide)
      rw [List.getElem?_eq_getElem this, getElem!_pos (encV d[t / 3]!) _ this]
    have h4 := flatten_get hw h2 h3
    rw [show t / 3 * 3 + t % 3 = t by omega] at h4
    rw [h4, ← get_flatK encV 3 d t ht, Array.getElem?_toList, Array.getElem?_eq_getElem (by rw [size_flatK]; exact ht), getElem!_pos (flatK encV 3 d) _ (by rw [size_flatK]; exact ht)]
  · rw [List.getElem?_eq_none (by rw [Array.length_toList, size_flatK]; omega), List.getElem?_eq_none (by rw [flatten_length hw, List.length_map, Array.length_toList]; omega)]

theorem pairsV {h : Mem} {B : Nat} : ∀ {css : List (List Value)} {l : List Opn}, LHeads 3 EOp h B css l → ∃ vs : List OpV, vs.map (·.1) = l ∧ css = vs.map encV ∧ ∀ p ∈ vs, OwnB h B ty_uint8 p.2 p.1.val
  | [], [], _ => ⟨[], rfl, rfl, by simp⟩
  | [], _ :: _, x => by have := x.len; simp at this
  | _ :: _, [], x => by have := x.len; simp at this
  | cs :: css, o :: l, x => by
    obtain ⟨v, e, ov⟩ := x.is 0 cs o rfl rfl
    obtain ⟨vs, h1, h2, h3⟩ := pairsV (css := css) (l := l) ⟨by simpa using x.len, fun c hc => x.width c (by simp [hc]), fun c hc => x.one c (by simp [hc]), fun i c y hi hy => x.is (i + 1) c y hi hy⟩
    refine ⟨(o, v) :: vs, by simp [h1], by simp [h2, e, encV], fun p hp => ?_⟩
    rcases List.mem_cons.1 hp with rfl | hp
    · exact ov
    · exact h3 p hp
theorem headsV {h : Mem} {B : Nat} {vs : List OpV} (hv : ∀ p ∈ vs, OwnB h B ty_uint8 p.2 p.1.val) : LHeads 3 EOp h B (vs.map encV) (vs.map (·.1)) := by
  refine ⟨by simp, fun cs hcs => ?_, fun cs hcs => ?_, fun i cs o hi ho => ?_⟩
  · obtain ⟨x, _, rfl⟩ := List.mem_map.1 hcs; rfl
  · obtain ⟨x, _, rfl⟩ := List.mem_map.1 hcs; exact one_ocells _ _ _
  · rw [List.getElem?_map] at hi ho
    cases hp : vs[i]? with
    | none => rw [hp] at hi; cases hi
    | some p =>
      rw [hp] at hi ho
      cases hi; cases ho
      exact ⟨p.2, rfl, hv p (List.mem_of_getElem? hp)⟩

/-! ### the sort -/

theorem ct_SortOps {h : Mem} {B : Nat} {s : Sl} {l : List Opn} {Q : Mem → Prop} (o : OwnO h B s l) (hl : l.length ≤ 140737488355328) (hB : B ≤ h.size)
    (q : ∀ h' l', l'.Perm l → (∀ (i j : Nat) (p q : Opn), i < j → l'[i]? = some p → l'[j]? = some q → sLt q.key p.key = false) → OwnO h' B s l' → Ext B h h' → Q h') :
    CallF PG fn_slices_SortFunc_api_Op_api_Op_ [sval s, .func (.func fn_batch_Last_1) #[] #[]] (.tup []) h Q := by
  have hlen := o.len (by decide)
  refine callF_calls enters110 fun w hw => ?_
  cases ha : s.a with
  | none =>
    obtain ⟨css, ow, _⟩ := id o
    obtain ⟨h0, hc⟩ := Owns.nil0 ow ha
    have hl0 : l = [] := List.eq_nil_of_length_eq_zero (by omega)
    subst hl0
    have hcon := AnyF.slices_SortFunc_none Try.sortOp none s.cap (.func (.func fn_batch_Last_1) #[] #[]) w
    rw [← PG_eq] at hcon
    show Calls PG 110 #[.slice s.a s.len s.cap, _] w _
    rw [ha, h0]
    refine hcon.mono ?_
    rintro e w' ⟨rfl, rfl⟩
    subst hw
    exact ⟨_, rfl, Same.refl _, [], rfl, q _ [] (List.Perm.refl _) (fun i j p q _ hp => by simp at hp) o (Ext.refl _ _)⟩
  | some a =>
    obtain ⟨css, ow, hh⟩ := id o
    obtain ⟨hxs, hr⟩ := ow
    have ow : Owns h B ty_api_Op 3 s css.flatten := ⟨hxs, hr⟩
    rcases hr with ⟨he, _⟩ | ⟨g, cap, cur, he, hBg, hg, hn, hcap, hcur, htk⟩
    · rw [ha] at he; cases he
    have hsa : s.a = some ⟨g, 0, none⟩ := by injection he
    have hsc : s.cap = cap := by injection he
    have hg : h[g]? = some (.cells cur ty_api_Op (0, 0)) := hg
    obtain ⟨vs, hvl, hcss, hvo⟩ := pairsV hh
    have hvn : vs.length = s.len := by rw [hlen, ← hvl, List.length_map]
    have hd : vs.toArray.size = s.len := by simpa using hvn
    have hflat : (flatK encV 3 vs.toArray).toList = css.flatten := by rw [flatK_toList, hcss]
    have hH : HoldsK encV 3 w g 0 vs.toArray := by
      intro j hj
      rw [size_flatK] at hj
      have e1 : cur[j]? = some (flatK encV 3 vs.toArray)[j]! := by
        have hj' : j < (flatK encV 3 vs.toArray).size := by rw [size_flatK]; exact hj
        rw [getElem!_pos (flatK encV 3 vs.toArray) _ hj', ← Array.getElem?_eq_getElem hj', ← Array.getElem?_toList (xs := flatK encV 3 vs.toArray), hflat, ← htk, List.getElem?_take, if_pos (by rw [hd] at hj; exact hj), Array.getElem?_toList]
      constructor
      · show w.cell? _ = _
        rw [cell_eq, hw, cellAt_row hg, Nat.zero_add]; exact e1
      · rw [frozen_eq, hw, frozenAt_row hg]; simp
    have hcon := AnyQ.slices_SortFunc Try.sortOp 3 isAggV sizeOfV encV (fun _ => rfl) (fun x => one_ocells _ _ _) cfV swoV 111 #[] g 0 cap vs.toArray w enters111 (cmpLaysV g 0 _ w) hH (by rw [hw]; exact (Array.getElem?_eq_some_iff.1 hg).1) (by rw [hd, hlen]; omega)
    rw [← PG_eq] at hcon
    show Calls PG 110 #[.slice s.a s.len s.cap, _] w _
    rw [hsa, hsc, ← hd]
    refine hcon.mono ?_
    rintro e w' ⟨rfl, d', n, os, hp, hs, rfl⟩
    have hperm : d'.toList.Perm vs := by
      have := hp.2.2
      have e1 : d'.extract 0 vs.toArray.size = d' := by rw [← hp.1]; simp
      rw [e1] at this
      simpa using this
    have hd' : d'.size = s.len := by rw [hp.1, hd]
    -- the heap
    have hheap : (sortWorldK encV 3 w g 0 n d' os).heap = (h.modify g (onCells (putCells id 0 (flatK encV 3 d')))) ++ os := by
      subst hw; rfl
    rw [hheap]
    have hgl := (Array.getElem?_eq_some_iff.1 hg).1
    have hoth : ∀ k, k < h.size → k ≠ g → ((h.modify g (onCells (putCells id 0 (flatK encV 3 d')))) ++ os)[k]? = h[k]? := by
      intro k hk hne
      rw [Array.getElem?_append_left (by simpa using hk), Array.getElem?_modify, if_neg (fun e => hne e.symm)]
    have hself : ((h.modify g (onCells (putCells id 0 (flatK encV 3 d')))) ++ os)[g]? = some (.cells (putCells id 0 (flatK encV 3 d') cur) ty_api_Op (0, 0)) := by
      rw [Array.getElem?_append_left (by simpa using hgl), Array.getElem?_modify, if_pos rfl, hg]; rfl
    have kb : KeepB h ((h.modify g (onCells (putCells id 0 (flatK encV 3 d')))) ++ os) := by
      intro k c hk
      refine hoth k (Array.getElem?_eq_some_iff.1 hk).1 fun e => ?_
      rw [e, hg] at hk
      cases hk
    refine ⟨_, rfl, by subst hw; exact ⟨rfl, rfl, rfl⟩, [], rfl, q _ (d'.toList.map (·.1)) (by rw [← hvl]; exact hperm.map _) ?_ ⟨d'.toList.map encV, ?_, ?_⟩ ⟨by simp, fun k hk => hoth k (by omega) (by omega)⟩⟩
    · intro i j p q' hij hpi hqj
      rw [List.getElem?_map, Array.getElem?_toList] at hpi hqj
      have hj : j < d'.size := by
        rcases Nat.lt_or_ge j d'.size with h1 | h1
        · exact h1
        · rw [Array.getElem?_eq_none h1] at hqj; cases hqj
      have hi : i < d'.size := by omega
      rw [Array.getElem?_eq_getElem hi] at hpi
      rw [Array.getElem?_eq_getElem hj] at hqj
      cases hpi; cases hqj
      have := hs i j (Nat.zero_le _) hij (by rw [hd, ← hd']; exact hj)
      rw [ltV, getElem!_pos d' j hj, getElem!_pos d' i hi] at this
      exact this
    · refine ⟨?_, .inr ⟨g, cap, _, ?_, hBg, hself, hn, hcap, ?_, ?_⟩⟩
      · rw [← flatK_toList, Array.length_toList, size_flatK, hd']
      · rw [hsa, hsc]
      · simpa [putCells] using hcur
      · rw [← flatK_toList]
        refine List.ext_getElem? fun t => ?_
        rw [List.getElem?_take]
        by_cases ht : t < s.len * 3
        · have ht' : t < (flatK encV 3 d').size := by rw [size_flatK, hd']; exact ht
          have htc : t < cur.size := by rw [hcur]; exact Nat.lt_of_lt_of_le ht (Nat.mul_le_mul_right 3 hn)
          rw [if_pos ht, Array.getElem?_toList, Array.getElem?_toList, Array.getElem?_eq_getElem ht', putCells, Array.getElem?_mapIdx, Array.getElem?_eq_getElem htc]
          simp only [Option.map_some, Nat.zero_le, Nat.zero_add, ht', and_self, if_true, Nat.sub_zero, id]
          rw [getElem!_pos (flatK encV 3 d') _ ht']
        · rw [if_neg ht, List.getElem?_eq_none (by rw [Array.length_toList, size_flatK, hd']; omega)]
    · exact headsV fun p hp => OwnB.keep (hvo p (hperm.mem_iff.1 hp)) kb
end Go.Dn.W
