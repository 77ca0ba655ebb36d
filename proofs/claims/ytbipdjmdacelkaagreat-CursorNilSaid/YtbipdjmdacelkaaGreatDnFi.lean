/- Where a key stands among entries; clones; nodes in memory. -/
import Derived.Test.YtbipdjmdacelkaaGreatDnIn
set_option linter.unusedVariables false
namespace Go.Dn.W
open Go Go.Dn Go.Proofs

/-! ### find -/
def Srt (es : List En) : Prop := es.Pairwise fun a b => sLt a.1 b.1 = true
structure PlE (es : List En) (key : ByteArray) (n : Nat) : Prop where
  le : n ≤ es.length
  lo : ∀ (i : Nat) (e : En), i < n → es[i]? = some e → sLt e.1 key = true
  hi : ∀ (i : Nat) (e : En), n ≤ i → es[i]? = some e → sLt e.1 key = false
def hit (es : List En) (key : ByteArray) (n : Nat) : Bool := match es[n]? with | some e => sEq e.1 key | none => false
theorem Srt.lt {es : List En} (s : Srt es) {i j : Nat} {a b : En} (hij : i < j) (ha : es[i]? = some a) (hb : es[j]? = some b) : sLt a.1 b.1 = true := by
  obtain ⟨h1, rfl⟩ := List.getElem?_eq_some_iff.1 ha
  obtain ⟨h2, rfl⟩ := List.getElem?_eq_some_iff.1 hb
  exact List.pairwise_iff_getElem.1 s i j h1 h2 hij
section
variable {h : Mem}
theorem ct_cmpLess {a b : ByteArray} {Q : Bool → Mem → Prop} (q : Q (sLt a b) h) : CallF PG fn_cmp_Less_string_ [.string a, .string b] (.one (.leaf .bool)) h Q := by
  refine call_cmp_Less_string_ (call_cmp_isNaN_string_ ?_)
  show Br _ _ _
  exact Br.f (by rw [sEq_self]; rfl) q
theorem ct_search {s : Sl} {es : List En} {key : ByteArray} {Q : Int → Bool → Mem → Prop} (x : Els h s (es.map ecell)) (st : Srt es) (hn : es.length ≤ 1048576) (q : ∀ n, PlE es key n → Q (n : Int) (hit es key n) h) :
    CallF PG fn_slices_BinarySearch_string_string_ [sval s, .string key] (.tup [.leaf (.int .i64), .leaf .bool]) h Q := by
  have hl := x.len
  rw [List.length_map] at hl
  refine call_slices_BinarySearch_string_string_ (x := s) ?_
  refine ⟨fun a b h' => ∃ n m : Nat, a = (n : Int) ∧ b = (m : Int) ∧ n ≤ m ∧ m ≤ es.length ∧ h' = h ∧ (∀ (i : Nat) (e : En), i < n → es[i]? = some e → sLt e.1 key = true) ∧ (∀ (i : Nat) (e : En), m ≤ i → es[i]? = some e → sLt e.1 key = false), fun a b _ => (b - a).toNat,
    ⟨0, es.length, rfl, by rw [hl], Nat.zero_le _, Nat.le_refl _, rfl, fun i e h1 => by omega, fun i e h1 h2 => by have := (List.getElem?_eq_some_iff.1 h2).1; omega⟩, ?_⟩
  rintro _ _ _ _ ⟨n, m, rfl, rfl, hnm, hm, rfl, lo, hi⟩
  refine Br.mk (fun hlt => ?_) fun hge => ?_
  · have hlt : n < m := by simpa using hlt
    have e1 : IntKind.i64.wrap ((IntKind.u64.wrap (IntKind.i64.wrap ((n : Int) + (m : Int)))).fdiv (Int.ofNat 2)) = (((n + m) / 2 : Nat) : Int) := by
      rw [i64_add (by omega), u64_eq (by omega), fdiv_nat, i64_nat (by omega)]
    rw [e1]
    obtain ⟨e, he⟩ : ∃ e, es[(n + m) / 2]? = some e := ⟨_, List.getElem?_eq_getElem (by omega)⟩
    refine x.get (v := ecell e) (by rw [List.getElem?_map, he]; rfl) fun ad ha hc => ?_
    rw [nat_mul, Nat.mul_one]
    refine Ld.str hc (ct_cmpLess (Br.mk (fun hb => ?_) fun hb => ?_))
    · rw [wrap_succ (by omega)]
      refine ⟨⟨(n + m) / 2 + 1, m, rfl, rfl, by omega, hm, rfl, fun i f h1 h2 => ?_, hi⟩, by show ((m : Int) - (((n + m) / 2 + 1 : Nat) : Int)).toNat < ((m : Int) - (n : Int)).toNat; omega⟩
      rcases Nat.lt_or_eq_of_le (Nat.le_of_lt_succ h1) with h3 | rfl
      · exact sLt_trans (st.lt h3 h2 he) hb
      · rw [he] at h2; cases h2; exact hb
    · refine ⟨⟨n, (n + m) / 2, rfl, rfl, by omega, by omega, rfl, lo, fun i f h1 h2 => ?_⟩, by show ((((n + m) / 2 : Nat) : Int) - (n : Int)).toNat < ((m : Int) - (n : Int)).toNat; omega⟩
      rcases Nat.lt_or_eq_of_le h1 with h3 | rfl
      · exact sLt_asymm (sLt_of_le_of_lt hb (st.lt h3 he h2)) |> fun h => h
      · rw [he] at h2; cases h2; exact hb
  · have hge : n = m := by simp at hge; omega
    subst hge
    have pl : PlE es key n := ⟨hm, lo, hi⟩
    refine Br.mk (fun h1 => ?_) fun h1 => ?_
    · have h1 : n < es.length := by simp at h1; omega
      obtain ⟨e, he⟩ : ∃ e, es[n]? = some e := ⟨_, List.getElem?_eq_getElem h1⟩
      have q := q n pl
      unfold hit at q
      rw [he] at q
      refine x.get (v := ecell e) (by rw [List.getElem?_map, he]; rfl) fun ad ha hc => ?_
      rw [nat_mul, Nat.mul_one]
      refine Ld.str hc (Br.mk (fun h2 => ?_) fun h2 => ?_)
      · dsimp only at q; rw [h2] at q; exact q
      · refine x.get (v := ecell e) (by rw [List.getElem?_map, he]; rfl) fun ad ha hc => ?_
        refine Ld.str hc (call_slices_isNaN_string_ ?_)
        show Br _ _ _
        dsimp only at q; rw [h2] at q
        exact Br.f (by rw [sEq_self]; rfl) q
    · have h1 : es.length ≤ n := by simp at h1; omega
      have q := q n pl
      unfold hit at q
      rw [List.getElem?_eq_none h1] at q
      exact q

/-! ### clones -/
def CloneWp (t e : TypeId) (s : Sl) (h : Mem) (Q : Sl → Mem → Prop) : Prop :=
  Br (match s.a with
    | some p2 => false
    | none => true)
    (Q (Sl.mk none 0 0) h)
    (New (Obj.cells #[] e) h fun (k4 : Nat) (h5 : Mem) => PrimT PG (Builtin.append_ #[t, t] t #[Value.slice (some (Addr.mk k4 0 none)) 0 0, Value.slice s.a s.len s.cap]) (Kd.one (Cmp.leaf Leaf.sl)) h5 fun (s6 : Sl) (h7 : Mem) => Q (Sl.mk s6.a s6.len s6.cap) h7)
theorem clone_go {t e : TypeId} {z bytes : Nat} {s : Sl} {xs : List Value} {Q : Sl → Mem → Prop} (ht : PG.underlying t = some (.slice e)) (hi : infoOk PG e z bytes = true) (hb0 : 0 < bytes) (hl : xs.length = s.len * z) (hc : ∀ a, s.a = some a → Cells h a xs) (hn : s.a = none → s.len = 0 ∧ s.cap = 0) (h1 : ∀ u ∈ xs, u.oneCell' = true)
    (hb : s.len * bytes ≤ 140737488355328) (q : ∀ s' h', Ext h.size h h' → s'.len = s.len → Owns h' h.size e z s' xs → Q s' h') : CloneWp t e s h Q := by
  obtain ⟨sa, sl, sc⟩ := s
  unfold CloneWp
  cases sa with
  | none =>
    obtain ⟨h0, _⟩ := hn rfl
    have h0 : sl = 0 := h0
    subst h0
    have hx : xs = [] := List.eq_nil_of_length_eq_zero (by rw [hl]; simp)
    subst hx
    exact Br.t rfl (q ⟨none, 0, 0⟩ h (Ext.refl _ _) rfl (Owns.nil h _ _ _))
  | some a =>
    refine Br.f rfl (New.go fun h1' e1 x1 z1 r1 => ?_)
    have ho : Owns h1' h.size e z ⟨some ⟨h.size, 0, none⟩, 0, 0⟩ [] := ⟨by simp, .inr ⟨h.size, 0, #[], rfl, Nat.le_refl _, r1, Nat.le_refl _, Nat.zero_le _, by simp, by simp⟩⟩
    refine append_go ht hi ho (v := ⟨some a, sl, sc⟩) hl (fun b hb => (hc b hb).ext x1) hn h1 (by show (0 + sl) * bytes ≤ _; rw [Nat.zero_add]; exact hb) hb0 x1.size fun s' h' l' o g => q s' h' (x1.trans (Owns.grownExt ho x1.size g)) (by rw [l']; show 0 + sl = sl; omega) (by simpa using o)
theorem ElsR.cells {s : Sl} {es : List En} (x : ElsR h s es) : ∀ a, s.a = some a → Cells h a (rfvs es) := fun a ha => by
  refine cells_flatten (n := 3) (by decide) (fun cs hcs => ?_) fun i cs hcs => ?_
  · obtain ⟨e, _, rfl⟩ := List.mem_map.1 hcs; rfl
  · rw [List.getElem?_map] at hcs
    cases he : es[i]? with
    | none => rw [he] at hcs; cases hcs
    | some e =>
      rw [he] at hcs
      cases hcs
      obtain ⟨b, hb, hc⟩ := x.at_ i e he
      rw [ha] at hb; cases hb; exact hc
theorem ElsR.part {s : Sl} {es : List En} {a n : Nat} (g : ElsR h s es) (h1 : a + n ≤ es.length) {K : Sl → Prop} (hk : ∀ s', ElsR h s' ((es.drop a).take n) → K s') : Cut 3 s.a s.len s.cap (some (a : Int)) (some ((a + n : Nat) : Int)) none K := by
  have hl := g.len
  have hc := g.cap
  refine Cut.both (by omega) (by omega) (hk _ ⟨?_, fun i e he => ?_, fun hn => ?_, ?_⟩)
  · show a + n - a = _
    rw [List.length_take, List.length_drop]; omega
  · rw [List.getElem?_take] at he
    split at he
    · rw [List.getElem?_drop] at he
      obtain ⟨b, hb, hcell⟩ := g.at_ _ e he
      refine ⟨b.add (a * 3), ?_, by rw [add_add', ← Nat.add_mul]; exact hcell⟩
      unfold cutSl
      dsimp only
      rw [if_neg (by omega), hb]
      rfl
    · cases he
  · unfold cutSl at hn ⊢
    dsimp only at hn ⊢
    split at hn
    · have := g.nil hn; omega
    · cases hb : s.a with
      | none => have := g.nil hb; omega
      | some p => rw [hb] at hn; cases hn
  · show a + n - a ≤ s.cap - a
    omega
theorem oneKeys {es : List En} : ∀ u ∈ es.map ecell, u.oneCell' = true := fun u hu => by
  obtain ⟨v, _, rfl⟩ := List.mem_map.1 hu; rfl
theorem ct_CloneS {s : Sl} {es : List En} {Q : Sl → Mem → Prop} (x : Els h s (es.map ecell)) (hl : es.length ≤ 1048576) (q : ∀ s' h', Ext h.size h h' → Owns h' h.size ty_string 1 s' (es.map ecell) → Q s' h') : CallF PG fn_slices_Clone_string_string_ [sval s] (.one (.leaf .sl)) h Q := by
  have := x.len
  rw [List.length_map] at this
  exact call_slices_Clone_string_string_ (s := s) (clone_go (t := ty_sl_string) (e := ty_string) (bytes := 16) und_strs info_s (by decide) (by rw [List.length_map]; omega) x.cells x.nil oneKeys (by omega) fun s' h' e _ o => q s' h' e o)
theorem ct_CloneI {s : Sl} {l : List Nat} {Q : Sl → Mem → Prop} (x : Els h s (l.map icell)) (hl : l.length ≤ 1048576) (q : ∀ s' h', Ext h.size h h' → Owns h' h.size ty_int 1 s' (l.map icell) → Q s' h') : CallF PG fn_slices_Clone_int_int_ [sval s] (.one (.leaf .sl)) h Q := by
  have := x.len
  rw [List.length_map] at this
  exact call_slices_Clone_int_int_ (s := s) (clone_go (t := ty_sl_int) (e := ty_int) (bytes := 8) und_ints info_i (by decide) (by rw [List.length_map]; omega) x.cells x.nil oneInts (by omega) fun s' h' e _ o => q s' h' e o)
theorem ct_CloneR {s : Sl} {es : List En} {Q : Sl → Mem → Prop} (x : ElsR h s es) (hl : es.length ≤ 1048576) (q : ∀ s' h', Ext h.size h h' → Owns h' h.size ty_api_Ref 3 s' (rfvs es) → Q s' h') : CallF PG fn_slices_Clone_api_Ref_api_Ref_ [sval s] (.one (.leaf .sl)) h Q := by
  have := x.len
  exact call_slices_Clone_api_Ref_api_Ref_ (s := s) (clone_go (t := ty_sl_api_Ref) (e := ty_api_Ref) (bytes := 24) und_refs info_ref (by decide) (by rw [rfvs_len]; omega) x.cells x.nil rfvs_one (by omega) fun s' h' e _ o => q s' h' e o)
end
end Go.Dn.W
