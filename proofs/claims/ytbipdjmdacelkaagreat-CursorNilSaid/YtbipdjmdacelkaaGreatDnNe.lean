/- Nodes as words: the walks. -/
import Derived.Test.YtbipdjmdacelkaaGreatDnNd
set_option linter.unusedVariables false
namespace Go.Dn.W
open Go Go.Dn Go.Proofs

theorem fdiv_nat (a b : Nat) : (a : Int).fdiv (Int.ofNat b) = ((a / b : Nat) : Int) := by
  show (a : Int).fdiv (b : Int) = _
  rw [Int.fdiv_eq_ediv_of_nonneg _ (Int.natCast_nonneg b)]; simp
theorem u32_mod (n : Nat) : IntKind.u32.wrap (n : Int) = ((n % 4294967296 : Nat) : Int) := by
  have : (n : Int) % (4294967296 : Int) = ((n % 4294967296 : Nat) : Int) := by omega
  simp only [IntKind.wrap, IntKind.bits, IntKind.signed]
  exact this
structure ElsR (h : Mem) (s : Sl) (es : List En) : Prop where
  len : s.len = es.length
  at_ : ∀ (i : Nat) (e : En), es[i]? = some e → ∃ a, s.a = some a ∧ Cells h (a.add (i * 3)) (rfv e.2)
  nil : s.a = none → s.len = 0 ∧ s.cap = 0
  cap : s.len ≤ s.cap
theorem chk_t {c : Bool} {A : Prop} (hc : c = true) (a : A) : Chk c A := by subst hc; exact a
section
variable {h : Mem}
theorem Cells.keep {h' : Mem} {a : Addr} {cs : List Value} (c : Cells h a cs) (hk : h'[a.block]? = h[a.block]?) : Cells h' a cs := fun i v hv => by
  have := c i v hv
  unfold cellAt at *
  rw [add_block] at *
  rw [hk]; exact this
theorem ElsR.keep {h' : Mem} {s : Sl} {es : List En} (x : ElsR h s es) (hk : ∀ a, s.a = some a → h'[a.block]? = h[a.block]?) : ElsR h' s es := ⟨x.len, fun i e he => by
  obtain ⟨a, ha, hc⟩ := x.at_ i e he
  exact ⟨a, ha, Cells.keep hc (by rw [add_block]; exact hk a ha)⟩, x.nil, x.cap⟩
theorem ElsR.ext {h' : Mem} {s : Sl} {es : List En} (x : ElsR h s es) (e : Ext h.size h h') : ElsR h' s es := ⟨x.len, fun i f hf => by
  obtain ⟨a, ha, hc⟩ := x.at_ i f hf
  exact ⟨a, ha, hc.ext e⟩, x.nil, x.cap⟩
theorem Owns.elsR {B : Nat} {s : Sl} {es : List En} (o : Owns h B ty_api_Ref 3 s (rfvs es)) : ElsR h s es := by
  have hl : s.len = es.length := by have := o.1; rw [rfvs_len] at this; omega
  refine ⟨hl, fun i e he => ?_, fun hn => Owns.nil0 o hn, Owns.cap1 o⟩
  obtain ⟨a, ha⟩ := Owns.some o (by have := (List.getElem?_eq_some_iff.1 he).1; omega)
  refine ⟨a, ha, fun j v hv => ?_⟩
  rw [add_add']
  exact Owns.cells o ha _ v (rfvs_get he j v hv)
theorem ElsR.get {s : Sl} {es : List En} (x : ElsR h s es) {i : Nat} {e : En} (he : es[i]? = some e) {K : Addr → Prop} (hk : ∀ a, s.a = some a → Cells h (a.add (i * 3)) (rfv e.2) → K a) : Idx s.a s.len (i : Int) K := by
  obtain ⟨a, ha, hc⟩ := x.at_ i e he
  exact Idx.mk ha (by rw [x.len]; exact (List.getElem?_eq_some_iff.1 he).1) (hk a ha hc)
theorem ElsR.isNil (h : Mem) : ElsR h ⟨none, 0, 0⟩ [] := ⟨rfl, fun i v hv => by simp at hv, fun _ => ⟨rfl, rfl⟩, Nat.le_refl _⟩

theorem meas {m i : Nat} {k : Nat} (h : i < m) (hk : 0 < k) : ((m : Int) - ((i + k : Nat) : Int)).toNat < ((m : Int) - (i : Int)).toNat := by omega
theorem meas' {m i j : Nat} (h : i < m) (hj : i < j) : ((m : Int) - (j : Int)).toNat < ((m : Int) - (i : Int)).toNat := by omega
theorem ct_words {k : Nat} {s1 s2 s3 : Sl} {es : List En} {Q : Sl → Mem → Prop} (rk : h[k]? = some (.cells (ndcells s1 s2 s3).toArray ty_btree_node (0, 0))) (x1 : Els h s1 (es.map ecell)) (x2 : ElsR h s2 es) (ok : ∀ e ∈ es, e.Ok) (hn : es.length ≤ 1000)
    (q : ∀ s' h', Ext h.size h h' → Owns h' h.size ty_uint32 1 s' ((enc es).map wcell) → Q s' h') : CallF PG fn_btree_node_words [.pointer (some ⟨k, 0, none⟩)] (.one (.leaf .sl)) h Q := by
  have l1 := x1.len
  rw [List.length_map] at l1
  refine call_btree_node_words ?_
  show Ld _ _ _ _ _ _
  refine Ld.strs (row_cell rk rfl) ?_
  refine ⟨fun s n h' => ∃ i : Nat, n = (i : Int) ∧ i ≤ es.length ∧ Ext h.size h h' ∧ Owns h' h.size ty_uint32 1 s ((enc (es.take i)).map wcell), fun _ n _ => (es.length - n).toNat, ⟨0, rfl, Nat.zero_le _, Ext.refl _ _, Owns.nil _ _ _ _⟩, ?_⟩
  rintro _ s6 _ h8 ⟨i, rfl, hi, x8, o8⟩
  refine Br.mk (fun hlt => ?_) fun hge => ?_
  · have hlt : i < es.length := by simp at hlt; omega
    obtain ⟨e, he⟩ : ∃ e, es[i]? = some e := ⟨_, List.getElem?_eq_getElem hlt⟩
    have eok := ok e (List.mem_of_getElem? he)
    have hsz := eok.key
    have hel := enc_len (es := es.take i) fun f hf => ok f (List.mem_of_mem_take hf)
    rw [List.length_take] at hel
    have hB8 := x8.size
    refine (x1.ext x8).get (v := ecell e) (by rw [List.getElem?_map, he]; rfl) fun ad ha hc => ?_
    rw [nat_mul, Nat.mul_one]
    refine Ld.str hc ?_
    rw [u32_eq (by omega)]
    have lo8 := Owns.len1 o8
    rw [List.length_map] at lo8
    refine put_new (news := [wcell e.1.size]) (bytes := 4) und_words info_w (by decide) o8 rfl (by simp [wcell, Value.oneCell']) (by omega) hB8 fun s13 h14 l13 o14 g14 => ?_
    have x14 : Ext h.size h h14 := x8.trans (o8.grownExt hB8 g14)
    refine ⟨fun s n h' => ∃ c : Nat, n = ((4 * c : Nat) : Int) ∧ c ≤ (e.1.size + 3) / 4 ∧ Ext h.size h h' ∧ Owns h' h.size ty_uint32 1 s ((enc (es.take i) ++ e.1.size :: (kw e.1.toList).take c).map wcell), fun _ n _ => (((e.1.size + 4 : Nat) : Int) - n).toNat,
      ⟨0, rfl, Nat.zero_le _, x14, by simpa using o14⟩, ?_⟩
    rintro _ s18 _ h20 ⟨c, rfl, hc, x20, o20⟩
    have hB20 := x20.size
    have lo20 := Owns.len1 o20
    simp only [List.length_map, List.length_append, List.length_cons, List.length_take, kw_len, size_list] at lo20
    refine Br.mk (fun hlt2 => ?_) fun hge2 => ?_
    · have hlt2 : 4 * c < e.1.size := by simp at hlt2; omega
      refine ⟨fun a n h' => ∃ j : Nat, n = ((4 * c + j : Nat) : Int) ∧ j ≤ 4 ∧ 4 * c + j ≤ e.1.size ∧ h' = h20 ∧ a = (le ((e.1.toList.drop (4 * c)).take j) : Int), fun _ n _ => ((e.1.size : Int) - n).toNat, ⟨0, rfl, by omega, by omega, rfl, by simp [le]⟩, ?_⟩
      rintro _ _ _ _ ⟨j, rfl, hj4, hjs, rfl, rfl⟩
      rw [i64_cast (n := ((4 * c : Nat) : Int) + 4) (m := 4 * c + 4) (by omega) (by omega)]
      refine Br.mk (fun hlt3 => ?_) fun hge3 => ?_
      · have hlt3 : 4 * c + j < e.1.size ∧ j < 4 := by
          simp only [decide_eq_true_eq] at hlt3
          split at hlt3 <;> omega
        obtain ⟨b, hb⟩ : ∃ b, e.1.toList[4 * c + j]? = some b := ⟨_, List.getElem?_eq_getElem (by rw [size_list]; omega)⟩
        refine IdxS.at hb ?_
        rw [i64_cast (n := ((4 * c + j : Nat) : Int) - ((4 * c : Nat) : Int)) (m := j) (by omega) (by omega), i64_cast (n := 8 * (j : Int)) (m := 8 * j) (by omega) (by omega)]
        have hlen : ((e.1.toList.drop (4 * c)).take j).length = j := by rw [List.length_take, List.length_drop, size_list]; omega
        rw [or_byte32 hlen hlt3.2, wrap_succ (by omega)]
        refine chk_t (by simp; omega) ⟨⟨j + 1, rfl, hlt3.2, hlt3.1, rfl, ?_⟩, meas hlt3.1 (by decide)⟩
        congr 2
        rw [List.take_add_one, List.getElem?_drop, hb]
        rfl
      · have hge3 : 4 * c + j = e.1.size ∨ j = 4 := by
          simp only [decide_eq_false_iff_not] at hge3
          split at hge3 <;> omega
        have etake : (e.1.toList.drop (4 * c)).take j = (e.1.toList.drop (4 * c)).take 4 := by
          rcases hge3 with h3 | rfl
          · rw [List.take_of_length_le (by rw [List.length_drop, size_list]; omega), List.take_of_length_le (by rw [List.length_drop, size_list]; omega)]
          · rfl
        rw [etake]
        refine put_new (news := [wcell (le ((e.1.toList.drop (4 * c)).take 4))]) (bytes := 4) und_words info_w (by decide) o20 rfl (by simp [wcell, Value.oneCell']) (by omega) hB20 fun s30 h31 l30 o31 g31 => ?_
        refine ⟨⟨c + 1, by omega, by omega, x20.trans (o20.grownExt hB20 g31), ?_⟩, by show (((e.1.size + 4 : Nat) : Int) - ((4 * c + 4 : Nat) : Int)).toNat < (((e.1.size + 4 : Nat) : Int) - ((4 * c : Nat) : Int)).toNat; omega⟩
        rw [List.take_add_one, kw_get _ (by rw [size_list]; omega)]
        simpa using o31
    · have hge2 : c = (e.1.size + 3) / 4 := by
        simp at hge2
        omega
      have etake : (kw e.1.toList).take c = kw e.1.toList := List.take_of_length_le (by rw [kw_len, size_list]; omega)
      rw [etake] at o20
      obtain ⟨o1, o2, o3⟩ := eok.ref
      show Ld _ _ _ _ _ _
      refine Ld.refs (row_at (x20.row' rk) rfl) ((x2.ext x20).get he fun ad ha hc => ?_)
      rw [nat_mul]
      refine Ld.ref hc (New.go fun h39 _ x39 z39 r39 => ?_)
      refine St.all und_ref rfl (vs := rfv e.2) sz_ref (by intro u hu; simp only [rfv, rfcells, List.mem_cons, List.not_mem_nil, or_false] at hu; rcases hu with rfl | rfl | rfl <;> rfl) r39 rfl fun h40 u40 r40 => ?_
      refine Ld.u (row_cell r40 rfl) (Ld.u (row_cell r40 rfl) (Ld.i (row_at r40 rfl) (Ld.i (row_at r40 rfl) (New.go fun h46 _ x46 z46 r46 => ?_))))
      have x46' : Ext h20.size h20 h46 := (x39.trans (u40.ext (Nat.le_refl _))).after x46
      rw [u32_mod, fdiv_nat, u32_eq (n := e.2.ser / 4294967296) (by omega), u32_eq (n := e.2.pos) (by omega), u32_eq (n := e.2.len) (by omega)] at r46
      refine append_go und_words info_w (o20.ext x46') (v := ⟨some ⟨h40.size, 0, none⟩, 4, 4⟩) (news := (encR e.2).map wcell) rfl (fun _ ha => by cases ha; exact Cells.whole r46) (fun hn => by cases hn) oneWords (by show (s18.len + 4) * 4 ≤ _; omega) (by decide) (Nat.le_trans hB20 x46'.size) fun s47 h48 l47 o48 g48 => ?_
      have x48 : Ext h.size h h48 := (x20.trans (x46'.less hB20)).trans ((o20.ext x46').grownExt (Nat.le_trans hB20 x46'.size) g48)
      rw [wrap_succ (by omega)]
      refine ⟨⟨i + 1, rfl, hlt, x48, ?_⟩, meas hlt (by decide)⟩
      rw [List.take_add_one, he]
      simpa [enc, encE] using o48
  · have hge : i = es.length := by simp at hge; omega
    subst hge
    rw [List.take_of_length_le (Nat.le_refl _)] at o8
    exact q _ h8 x8 o8
end
end Go.Dn.W
