/- Trees: what a node stands for; putting an entry into a list. -/
import Derived.Test.YtbipdjmdacelkaaGreatDnRe
set_option linter.unusedVariables false
namespace Go.Dn.W
open Go Go.Dn Go.Proofs

def weave : List (List En) → List En → List En
  | s :: ss, e :: es => s ++ e :: weave ss es
  | s :: _, [] => s
  | [], _ => []
def W1 : List (List En) → List En → List En
  | s :: ss, e :: es => s ++ e :: W1 ss es
  | _, _ => []
def W2 : List En → List (List En) → List En
  | e :: es, s :: ss => e :: (s ++ W2 es ss)
  | _, _ => []
theorem weave_W2 : ∀ (eb : List En) (s : List En) (sb : List (List En)), sb.length = eb.length → weave (s :: sb) eb = s ++ W2 eb sb
  | [], s, [], _ => by simp [weave, W2]
  | e :: eb, s, t :: sb, h => by
    show s ++ e :: weave (t :: sb) eb = s ++ W2 (e :: eb) (t :: sb)
    rw [weave_W2 eb t sb (by simpa using h)]
    rfl
theorem weave_mid : ∀ (sa : List (List En)) (ea : List En) (s : List En) (sb : List (List En)) (eb : List En), sa.length = ea.length → sb.length = eb.length → weave (sa ++ s :: sb) (ea ++ eb) = W1 sa ea ++ s ++ W2 eb sb
  | [], [], s, sb, eb, _, h => by simpa [W1] using weave_W2 eb s sb h
  | t :: sa, e :: ea, s, sb, eb, h1, h2 => by
    show t ++ e :: weave (sa ++ s :: sb) (ea ++ eb) = t ++ e :: W1 sa ea ++ s ++ W2 eb sb
    rw [weave_mid sa ea s sb eb (by simpa using h1) h2]
    simp
theorem W2_weave (m : En) (eb : List En) (s : List En) (sb : List (List En)) (h : sb.length = eb.length) : W2 (m :: eb) (s :: sb) = m :: weave (s :: sb) eb := by
  rw [weave_W2 eb s sb h]; rfl
/-- two nodes of one -/
theorem weave_split (sa : List (List En)) (ea : List En) (s t : List En) (sb : List (List En)) (eb : List En) (m : En) (h1 : sa.length = ea.length) (h2 : sb.length = eb.length) : weave (sa ++ s :: t :: sb) (ea ++ m :: eb) = weave (sa ++ [s]) ea ++ m :: weave (t :: sb) eb := by
  rw [weave_mid sa ea s (t :: sb) (m :: eb) h1 (by simp [h2]), W2_weave _ _ _ _ h2]
  have := weave_mid sa ea s [] [] h1 rfl
  simp only [List.append_nil, W2] at this
  rw [this]
theorem mem_W1 {e : En} : ∀ (sa : List (List En)) (ea : List En), sa.length = ea.length → e ∈ ea → e ∈ W1 sa ea
  | _, [], _, hm => by simp at hm
  | s :: sa, f :: ea, h, hm => by
    rcases List.mem_cons.1 hm with rfl | hm
    · simp [W1]
    · have := mem_W1 sa ea (by simpa using h) hm
      simp [W1, this]
theorem mem_W2 {e : En} : ∀ (ea : List En) (sa : List (List En)), sa.length = ea.length → e ∈ ea → e ∈ W2 ea sa
  | [], _, _, hm => by simp at hm
  | f :: ea, s :: sa, h, hm => by
    rcases List.mem_cons.1 hm with rfl | hm
    · simp [W2]
    · have := mem_W2 ea sa (by simpa using h) hm
      simp [W2, this]
theorem sub_W1 : ∀ (sa : List (List En)) (ea : List En), sa.length = ea.length → ∀ s ∈ sa, ∀ x ∈ s, x ∈ W1 sa ea
  | [], _, _, _, hs, _, _ => by simp at hs
  | t :: sa, f :: ea, h, s, hs, x, hx => by
    rcases List.mem_cons.1 hs with rfl | hs
    · simp [W1, hx]
    · have := sub_W1 sa ea (by simpa using h) s hs x hx
      simp [W1, this]
theorem sub_W2 : ∀ (ea : List En) (sa : List (List En)), sa.length = ea.length → ∀ s ∈ sa, ∀ x ∈ s, x ∈ W2 ea sa
  | _, [], _, _, hs, _, _ => by simp at hs
  | f :: ea, t :: sa, h, s, hs, x, hx => by
    rcases List.mem_cons.1 hs with rfl | hs
    · simp [W2, hx]
    · have := sub_W2 ea sa (by simpa using h) s hs x hx
      simp [W2, this]
theorem below_W1 {key : ByteArray} : ∀ (sa : List (List En)) (ea : List En), sa.length = ea.length → Srt (W1 sa ea) → (∀ e ∈ ea, sLt e.1 key = true) → ∀ x ∈ W1 sa ea, sLt x.1 key = true
  | [], [], _, _, _, x, hx => by simp [W1] at hx
  | s :: sa, e :: ea, h, st, lo, x, hx => by
    have hx : x ∈ s ++ e :: W1 sa ea := hx
    have st : List.Pairwise _ (s ++ e :: W1 sa ea) := st
    rw [List.pairwise_append] at st
    rcases List.mem_append.1 hx with h1 | h1
    · exact sLt_trans (st.2.2 x h1 e (by simp)) (lo e (by simp))
    · rcases List.mem_cons.1 h1 with rfl | h1
      · exact lo x (by simp)
      · exact below_W1 sa ea (by simpa using h) (List.pairwise_cons.1 st.2.1).2 (fun f hf => lo f (by simp [hf])) x h1
theorem above_W2 {key : ByteArray} : ∀ (eb : List En) (sb : List (List En)), sb.length = eb.length → Srt (W2 eb sb) → (∀ e ∈ eb, sLt key e.1 = true) → ∀ x ∈ W2 eb sb, sLt key x.1 = true
  | [], [], _, _, _, x, hx => by simp [W2] at hx
  | e :: eb, s :: sb, h, st, hi, x, hx => by
    have hx : x ∈ e :: (s ++ W2 eb sb) := hx
    have st : List.Pairwise _ (e :: (s ++ W2 eb sb)) := st
    rw [List.pairwise_cons] at st
    rcases List.mem_cons.1 hx with rfl | h1
    · exact hi x (by simp)
    · exact sLt_trans (hi e (by simp)) (st.1 x h1)

/-! ### an entry put into a sorted list -/
def insL (l : List En) (e : En) : List En := l.filter (fun x => sLt x.1 e.1) ++ e :: l.filter (fun x => sLt e.1 x.1)
theorem filter_all {p : En → Bool} {l : List En} (h : ∀ x ∈ l, p x = true) : l.filter p = l := List.filter_eq_self.2 h
theorem filter_none {p : En → Bool} {l : List En} (h : ∀ x ∈ l, p x = false) : l.filter p = [] := List.filter_eq_nil_iff.2 fun x hx => by rw [h x hx]; decide
theorem insL_mid {a b c : List En} {e : En} (h1 : ∀ x ∈ a, sLt x.1 e.1 = true) (h2 : ∀ x ∈ c, sLt e.1 x.1 = true) : insL (a ++ b ++ c) e = a ++ insL b e ++ c := by
  unfold insL
  rw [List.filter_append, List.filter_append, List.filter_append, List.filter_append, filter_all h1, filter_none (l := a) fun x hx => sLt_asymm (h1 x hx), filter_all (l := c) h2, filter_none (l := c) fun x hx => sLt_asymm (h2 x hx)]
  simp
theorem insL_hit {a c : List En} {e f : En} (h1 : ∀ x ∈ a, sLt x.1 e.1 = true) (h2 : ∀ x ∈ c, sLt e.1 x.1 = true) (hk : f.1 = e.1) : insL (a ++ f :: c) e = a ++ e :: c := by
  have := insL_mid (b := [f]) h1 h2
  simp only [List.append_assoc, List.singleton_append] at this
  rw [this]
  have hf : insL [f] e = [e] := by
    unfold insL
    rw [filter_none (l := [f]) fun x hx => ?_, filter_none (l := [f]) fun x hx => ?_]
    · rfl
    · rw [List.mem_singleton.1 hx, hk]; exact sLt_irrefl _
    · rw [List.mem_singleton.1 hx, hk]; exact sLt_irrefl _
  rw [hf]; rfl
theorem insL_new {a c : List En} {e : En} (h1 : ∀ x ∈ a, sLt x.1 e.1 = true) (h2 : ∀ x ∈ c, sLt e.1 x.1 = true) : insL (a ++ c) e = a ++ e :: c := by
  have := insL_mid (b := []) h1 h2
  simpa [insL] using this
theorem Srt.insL {l : List En} {e : En} (s : Srt l) : Srt (insL l e) := by
  unfold Srt W.insL
  rw [List.pairwise_append]
  refine ⟨List.Pairwise.filter _ s, List.pairwise_cons.2 ⟨fun x hx => (List.mem_filter.1 hx).2, List.Pairwise.filter _ s⟩, fun x hx y hy => ?_⟩
  have hx := (List.mem_filter.1 hx).2
  rcases List.mem_cons.1 hy with rfl | hy
  · exact hx
  · exact sLt_trans hx (List.mem_filter.1 hy).2
theorem mem_insL {l : List En} {e x : En} (h : x ∈ insL l e) : x = e ∨ x ∈ l := by
  unfold insL at h
  rcases List.mem_append.1 h with h | h
  · exact .inr (List.mem_filter.1 h).1
  · rcases List.mem_cons.1 h with h | h
    · exact .inl h
    · exact .inr (List.mem_filter.1 h).1

/-! ### what a node stands for -/
def NodeT (A : Ar) : Nat → List En → List Nat → List En → Prop
  | 0, es, kids, l => kids = [] ∧ l = es
  | d + 1, es, kids, l => kids.length = es.length + 1 ∧ ∃ subs : List (List En), subs.length = kids.length ∧
      (∀ (i k : Nat) (s : List En), kids[i]? = some k → subs[i]? = some s → ∃ es' kids', IsObj A k (ndObj es' kids') ∧ 3 ≤ es'.length ∧ es'.length ≤ 7 ∧ NodeT A d es' kids' s) ∧ l = weave subs es
def Tree (A : Ar) (lo d at' : Nat) (l : List En) : Prop := ∃ es kids, IsObj A at' (ndObj es kids) ∧ lo ≤ es.length ∧ es.length ≤ 7 ∧ NodeT A d es kids l
theorem NodeT.reach {A A' : Ar} (x : Reach A A') : ∀ {d : Nat} {es : List En} {kids : List Nat} {l : List En}, NodeT A d es kids l → NodeT A' d es kids l
  | 0, _, _, _, h => h
  | d + 1, es, kids, l, ⟨h1, subs, h2, h3, h4⟩ => ⟨h1, subs, h2, fun i k s hk hs => by
      obtain ⟨es', kids', a1, a2, a3, a4⟩ := h3 i k s hk hs
      exact ⟨es', kids', a1.reach x, a2, a3, NodeT.reach x a4⟩, h4⟩
theorem Tree.reach {A A' : Ar} (x : Reach A A') {lo d at' : Nat} {l : List En} (t : Tree A lo d at' l) : Tree A' lo d at' l := by
  obtain ⟨es, kids, a1, a2, a3, a4⟩ := t
  exact ⟨es, kids, a1.reach x, a2, a3, a4.reach x⟩
theorem Tree.weaken {A : Ar} {lo lo' d at' : Nat} {l : List En} (h : lo' ≤ lo) (t : Tree A lo d at' l) : Tree A lo' d at' l := by
  obtain ⟨es, kids, a1, a2, a3, a4⟩ := t
  exact ⟨es, kids, a1, Nat.le_trans h a2, a3, a4⟩
theorem NodeT.klen {A : Ar} {d : Nat} {es : List En} {kids : List Nat} {l : List En} (n : NodeT A d es kids l) : kids = [] ∨ kids.length = es.length + 1 := by
  cases d with
  | zero => exact .inl n.1
  | succ d => exact .inr n.1
/-- a node's place n parts what it stands for -/
structure Parts (A : Ar) (d : Nat) (es : List En) (kids : List Nat) (l : List En) (n : Nat) (sa : List (List En)) (s : List En) (sb : List (List En)) : Prop where
  sal : sa.length = (es.take n).length
  sbl : sb.length = (es.drop n).length
  l : l = W1 sa (es.take n) ++ s ++ W2 (es.drop n) sb
  kid : ∃ k, kids[n]? = some k ∧ Tree A 3 d k s
  left : ∀ (i k : Nat) (t : List En), i < n → kids[i]? = some k → sa[i]? = some t → Tree A 3 d k t
  right : ∀ (i k : Nat) (t : List En), kids[n + 1 + i]? = some k → sb[i]? = some t → Tree A 3 d k t
theorem NodeT.parts {A : Ar} {d : Nat} {es : List En} {kids : List Nat} {l : List En} (h : NodeT A (d + 1) es kids l) {n : Nat} (hn : n ≤ es.length) : ∃ sa s sb, Parts A d es kids l n sa s sb := by
  obtain ⟨h1, subs, h2, h3, h4⟩ := h
  obtain ⟨s, hs⟩ : ∃ s, subs[n]? = some s := ⟨_, List.getElem?_eq_getElem (by omega)⟩
  obtain ⟨k, hk⟩ : ∃ k, kids[n]? = some k := ⟨_, List.getElem?_eq_getElem (by omega)⟩
  have hsub : subs = subs.take n ++ s :: subs.drop (n + 1) := by
    have hi := (List.getElem?_eq_some_iff.1 hs).1
    have h2 := List.drop_eq_getElem_cons hi
    rw [List.getElem?_eq_getElem hi] at hs
    rw [Option.some.inj hs] at h2
    rw [← h2, List.take_append_drop]
  refine ⟨subs.take n, s, subs.drop (n + 1), by simp; omega, by simp; omega, ?_, ⟨k, hk, h3 n k s hk hs⟩, fun i k' t hi hk' ht => ?_, fun i k' t hk' ht => ?_⟩
  · rw [← weave_mid _ _ _ _ _ (by simp; omega) (by simp; omega), ← hsub, List.take_append_drop, h4]
  · rw [List.getElem?_take, if_pos hi] at ht
    exact h3 i k' t hk' ht
  · rw [List.getElem?_drop] at ht
    exact h3 _ k' t hk' ht
/-- a node made anew of parts, one sub-tree turned -/
theorem Parts.set {A A' : Ar} {d : Nat} {es : List En} {kids : List Nat} {l : List En} {n : Nat} {sa sb : List (List En)} {s s' : List En} {k' : Nat} (p : Parts A d es kids l n sa s sb) (hkl : kids.length = es.length + 1) (hn : n ≤ es.length) (x : Reach A A') (t : Tree A' 3 d k' s') :
    NodeT A' (d + 1) es (kids.set n k') (W1 sa (es.take n) ++ s' ++ W2 (es.drop n) sb) := by
  have l1 : sa.length = n := by rw [p.sal, List.length_take]; omega
  have l2 : sb.length = es.length - n := by rw [p.sbl, List.length_drop]
  refine ⟨by rw [List.length_set]; exact hkl, sa ++ s' :: sb, by simp; omega, fun i k s hk hs => ?_, ?_⟩
  · rcases Nat.lt_trichotomy i n with h1 | h1 | h1
    · rw [List.getElem?_set_ne (by omega)] at hk
      rw [List.getElem?_append_left (by omega)] at hs
      exact (p.left i k s h1 hk hs).reach x
    · subst h1
      rw [List.getElem?_set_self (by omega)] at hk
      rw [List.getElem?_append_right (by omega), l1, Nat.sub_self, List.getElem?_cons_zero] at hs
      cases hk; cases hs
      exact t
    · rw [List.getElem?_set_ne (by omega)] at hk
      rw [List.getElem?_append_right (by omega), l1, show i - n = (i - n - 1) + 1 by omega, List.getElem?_cons_succ] at hs
      exact (p.right (i - n - 1) k s (by rw [show n + 1 + (i - n - 1) = i by omega]; exact hk) hs).reach x
  · rw [← weave_mid _ _ _ _ _ p.sal p.sbl, List.take_append_drop]
def insE (es : List En) (i : Nat) (e : En) : List En := es.take i ++ e :: es.drop i
def insK (kids : List Nat) (i k : Nat) : List Nat := kids.take i ++ k :: kids.drop i
/-- a node made anew of parts, one sub-tree become two -/
theorem Parts.two {A A' : Ar} {d : Nat} {es : List En} {kids : List Nat} {l : List En} {n : Nat} {sa sb : List (List En)} {s s1 s2 : List En} {k1 k2 : Nat} {m : En} (p : Parts A d es kids l n sa s sb) (hkl : kids.length = es.length + 1) (hn : n ≤ es.length) (x : Reach A A') (t1 : Tree A' 3 d k1 s1) (t2 : Tree A' 3 d k2 s2) :
    NodeT A' (d + 1) (insE es n m) (insK (kids.set n k1) (n + 1) k2) (W1 sa (es.take n) ++ (s1 ++ m :: s2) ++ W2 (es.drop n) sb) := by
  have l1 : sa.length = n := by rw [p.sal, List.length_take]; omega
  have l2 : sb.length = es.length - n := by rw [p.sbl, List.length_drop]
  refine ⟨by simp [insE, insK]; omega, sa ++ s1 :: s2 :: sb, by simp [insK]; omega, fun i k s hk hs => ?_, ?_⟩
  · unfold insK at hk
    have hlt : ((kids.set n k1).take (n + 1)).length = n + 1 := by simp; omega
    rcases Nat.lt_trichotomy i n with h1 | h1 | h1
    · rw [List.getElem?_append_left (by omega), List.getElem?_take, if_pos (by omega), List.getElem?_set_ne (by omega)] at hk
      rw [List.getElem?_append_left (by omega)] at hs
      exact (p.left i k s h1 hk hs).reach x
    · subst h1
      rw [List.getElem?_append_left (by omega), List.getElem?_take, if_pos (by omega), List.getElem?_set_self (by omega)] at hk
      rw [List.getElem?_append_right (by omega), l1, Nat.sub_self, List.getElem?_cons_zero] at hs
      cases hk; cases hs
      exact t1
    · rw [List.getElem?_append_right (by omega), hlt] at hk
      rw [List.getElem?_append_right (by omega), l1, show i - n = (i - (n + 1)) + 1 by omega, List.getElem?_cons_succ] at hs
      cases hd : i - (n + 1) with
      | zero =>
        rw [hd] at hk hs
        cases hk; cases hs
        exact t2
      | succ j =>
        rw [hd, List.getElem?_cons_succ] at hk hs
        rw [List.getElem?_drop, List.getElem?_set_ne (by omega)] at hk
        exact (p.right j k s hk hs).reach x
  · have := weave_mid sa (es.take n) s1 (s2 :: sb) (m :: es.drop n) p.sal (by simp; omega)
    unfold insE
    rw [this]
    simp [W2]
end Go.Dn.W
