/- Pairs: how they lie in the heap; held against each other; copied. -/
import Derived.Test.YtemelcaoepaoiaaDnByt
import Derived.Test.YtemelcaoepaoiaaDnPre
namespace Go.Dn.W
open Go Go.Dn Go.Proofs

structure Pr where
  key : ByteArray
  val : List UInt8
  deriving DecidableEq

theorem und_str : PG.underlying ty_string = some .string := by kernel_rfl
theorem agg_str : isAggB PG ty_string = false := by kernel_rfl
theorem agg_bytes : isAggB PG ty_sl_uint8 = false := by kernel_rfl
theorem sz_bytes : szOf PG ty_sl_uint8 = 1 := by kernel_rfl
theorem und_bool : PG.underlying ty_bool = some .bool := by kernel_rfl
theorem agg_bool : isAggB PG ty_bool = false := by kernel_rfl
theorem und_pairs : PG.underlying ty_sl_api_Pair = some (.slice ty_api_Pair) := by kernel_rfl
theorem info_pair : infoOk PG ty_api_Pair 2 40 = true := by kernel_rfl
theorem agg_pair : isAggB PG ty_api_Pair = true := by kernel_rfl
theorem sz_pair : szOf PG ty_api_Pair = 2 := by kernel_rfl
theorem und_pair : ∃ d, PG.underlying ty_api_Pair = some d := Option.isSome_iff_exists.1 (by kernel_rfl)

abbrev sval (s : Sl) : Value := .slice s.a s.len s.cap
/-- the cells of a pair -/
def pcells (k : ByteArray) (v : Sl) : List Value := [.string k, sval v]

section
variable {h : Mem}

theorem Ld.pair {a : Addr} {k : ByteArray} {v : Sl} {K : ByteArray → Sl → Prop} (hc : Cells h a (pcells k v)) (hk : K k v) : Ld PG ty_api_Pair a (.one (.agg [.str, .sl])) h K := by
  obtain ⟨d, hd⟩ := und_pair
  exact Ld.agg hd agg_pair sz_pair rfl hc ⟨k, .str k, v, .sl v.a v.len v.cap, hk⟩
theorem Ld.key {a : Addr} {k : ByteArray} {K : ByteArray → Prop} (hc : cellAt h a = some (.string k)) (hk : K k) : Ld PG ty_string a (.one (.leaf .str)) h K := Ld.cell (l := .str) und_str agg_str hc hk
theorem Ld.bytes {a : Addr} {v : Sl} {K : Sl → Prop} (hc : cellAt h a = some (sval v)) (hk : K v) : Ld PG ty_sl_uint8 a (.one (.leaf .sl)) h K := Ld.cell (l := .sl) und_bytes agg_bytes hc hk
theorem Ld.flag {a : Addr} {v : Bool} {K : Bool → Prop} (hc : cellAt h a = some (.bool v)) (hk : K v) : Ld PG ty_bool a (.one (.leaf .bool)) h K := Ld.cell (l := .bool) und_bool agg_bool hc hk

theorem row_cell {b o : Nat} {c : Array Value} {e : TypeId} {fz : Nat × Nat} {v : Value} (hb : h[b]? = some (.cells c e fz)) (hv : c[o]? = some v) : cellAt h ⟨b, o, none⟩ = some v := by rw [cellAt_row hb]; exact hv

theorem ct_Pair {k m : ByteArray} {s t : Sl} {u v : List UInt8} {Q : Bool → Mem → Prop} (b : BytesSl h s u) (c : BytesSl h t v) (q : ∀ h', Ext h.size h h' → Q (decide (k = m ∧ u = v)) h') :
    CallF PG fn_dunnagehelp_Pair [.agg #[.string k, sval s], .agg #[.string m, sval t]] (.one (.leaf .bool)) h Q := by
  refine call_dunnagehelp_Pair (New.go fun h1 _ x1 z1 r1 => New.go fun h2 _ x2 z2 r2 => ?_)
  have r1' : h2[h.size]? = _ := (x2.block _ (by omega)).trans r1
  have x := x1.trans (x2.less x1.size)
  refine Ld.key (row_cell r1' rfl) (Ld.key (row_cell r2 rfl) (Br.mk (fun e => ?_) fun e => ?_))
  · refine Ld.bytes (v := s) (by rw [add_off]; exact row_cell r1' rfl) (Ld.bytes (v := t) (by rw [add_off]; exact row_cell r2 rfl) (ct_Bytes (b.ext x) (c.ext x) ?_))
    have : decide (u = v) = decide (k = m ∧ u = v) := by simp [sEq_iff.1 e]
    rw [this]; exact q _ x
  · have : false = decide (k = m ∧ u = v) := by simp [sEq_false.1 e]
    rw [this]; exact q _ x

/-! ### lists of pairs -/

/-- a pair lies there -/
def PairAt (h : Mem) (a : Addr) (p : Pr) : Prop := ∃ v : Sl, Cells h a (pcells p.key v) ∧ BytesSl h v p.val
theorem PairAt.ext {h h' : Mem} {a : Addr} {p : Pr} (x : PairAt h a p) (e : Ext h.size h h') : PairAt h' a p := let ⟨v, c, b⟩ := x; ⟨v, c.ext e, b.ext e⟩

structure PairsAt (h : Mem) (s : Sl) (l : List Pr) : Prop where
  len : s.len = l.length
  at_ : ∀ i p, l[i]? = some p → ∃ a, s.a = some a ∧ PairAt h (a.add (i * 2)) p
  nil : s.a = none → s.cap = 0
theorem PairsAt.ext {h h' : Mem} {s : Sl} {l : List Pr} (x : PairsAt h s l) (e : Ext h.size h h') : PairsAt h' s l := ⟨x.len, fun i p hp => let ⟨a, ha, hb⟩ := x.at_ i p hp; ⟨a, ha, hb.ext e⟩, x.nil⟩

theorem nat_mul (m k : Nat) : (m : Int).toNat * k = m * k := by rw [Int.toNat_natCast]
theorem wrap_succ {m : Nat} (h : m ≤ 140737488355328) : IntKind.i64.wrap ((m : Int) + 1) = ((m + 1 : Nat) : Int) := by rw [i64_eq (by omega) (by omega)]; omega

theorem take_eq_succ {α : Type} {l m : List α} {i : Nat} {x y : α} (hx : l[i]? = some x) (hy : m[i]? = some y) (he : l.take i = m.take i) (hxy : x = y) : l.take (i + 1) = m.take (i + 1) := by
  rw [List.take_add_one, List.take_add_one, hx, hy, he, hxy]

theorem ct_Pairs {s t : Sl} {l m : List Pr} {Q : Bool → Mem → Prop} (a : PairsAt h s l) (b : PairsAt h t m) (hl : l.length ≤ 140737488355328) (q : ∀ h', Ext h.size h h' → Q (decide (l = m)) h') :
    CallF PG fn_dunnagehelp_Pairs [sval s, sval t] (.one (.leaf .bool)) h Q := by
  refine call_dunnagehelp_Pairs (call_dunnagehelp_Same_api_Pair_ (Br.mk (fun hne => ?_) fun heq => ?_))
  · have : false = decide (l = m) := by
      symm; rw [decide_eq_false_iff_not]
      rintro rfl
      rw [a.len, b.len] at hne; simp at hne
    rw [this]; exact q _ (Ext.refl _ _)
  · have hlm : l.length = m.length := by
      have := a.len; have := b.len
      simp only [bne_eq_false_iff_eq] at heq
      omega
    refine ⟨fun n h' => ∃ i : Nat, n = (i : Int) ∧ i ≤ l.length ∧ l.take i = m.take i ∧ Ext h.size h h', fun n _ => l.length - n.toNat, ⟨0, rfl, Nat.zero_le _, rfl, Ext.refl _ _⟩, ?_⟩
    rintro _ n h1 ⟨i, rfl, hi, he, x⟩
    refine Br.mk (fun h2 => ?_) fun h2 => ?_
    · simp only [decide_eq_true_eq] at h2
      rw [a.len] at h2
      obtain ⟨p, hp⟩ : ∃ p, l[i]? = some p := ⟨_, List.getElem?_eq_getElem (by omega)⟩
      obtain ⟨p', hp'⟩ : ∃ p, m[i]? = some p := ⟨_, List.getElem?_eq_getElem (by omega)⟩
      obtain ⟨ad, ha, v, hc, hb⟩ := (a.ext x).at_ i p hp
      obtain ⟨ad', ha', v', hc', hb'⟩ := (b.ext x).at_ i p' hp'
      refine Idx.mk ha (by rw [a.len]; omega) ?_
      rw [nat_mul]
      refine Ld.pair hc (Idx.mk ha' (by rw [b.len]; omega) ?_)
      refine Ld.pair hc' (callV_fn (ct_Pair hb hb' fun h3 x3 => Br.mk (fun h4 => ?_) fun h4 => ?_))
      · have : false = decide (l = m) := by
          symm; rw [decide_eq_false_iff_not]
          rintro rfl
          rw [hp] at hp'; cases hp'
          simp at h4
        rw [this]; exact q _ (x.trans (x3.less x.size))
      · simp only [Bool.not_eq_false', decide_eq_true_eq] at h4
        have hpp : p = p' := by cases p; cases p'; simp_all
        rw [wrap_succ (by omega)]
        exact ⟨⟨i + 1, rfl, by omega, take_eq_succ hp hp' he hpp, x.trans (x3.less x.size)⟩, by simp only [Int.toNat_natCast]; omega⟩
    · simp only [decide_eq_false_iff_not] at h2
      rw [a.len] at h2
      have hi' : i = l.length := by omega
      have : true = decide (l = m) := by
        symm; rw [decide_eq_true_eq]
        rw [hi', List.take_length, hlm, List.take_length] at he
        exact he
      rw [this]; exact q _ x

/-! ### lists of pairs that a function has made -/

def hcells (hl : List (ByteArray × Sl)) : List Value := hl.flatMap fun q => pcells q.1 q.2
theorem hcells_cons (q : ByteArray × Sl) (hl : List (ByteArray × Sl)) : hcells (q :: hl) = .string q.1 :: sval q.2 :: hcells hl := rfl
theorem hcells_append (a b : List (ByteArray × Sl)) : hcells (a ++ b) = hcells a ++ hcells b := by simp [hcells]
theorem hcells_length : ∀ hl : List (ByteArray × Sl), (hcells hl).length = hl.length * 2
  | [] => rfl
  | q :: hl => by rw [hcells_cons, List.length_cons, List.length_cons, hcells_length hl, List.length_cons]; omega
theorem hcells_get : ∀ {hl : List (ByteArray × Sl)} {i : Nat} {q : ByteArray × Sl}, hl[i]? = some q → ∀ j v, (pcells q.1 q.2)[j]? = some v → (hcells hl)[i * 2 + j]? = some v
  | [], i, q, hq, _, _, _ => by simp at hq
  | q' :: hl, 0, q, hq, j, v, hv => by
    simp only [List.getElem?_cons_zero, Option.some.injEq] at hq
    subst hq
    rw [hcells_cons, Nat.zero_mul, Nat.zero_add]
    match j, hv with
    | 0, hv => exact hv
    | 1, hv => exact hv
    | j + 2, hv => simp [pcells] at hv
  | q' :: hl, i + 1, q, hq, j, v, hv => by
    simp only [List.getElem?_cons_succ] at hq
    have := hcells_get hq j v hv
    rw [hcells_cons, show (i + 1) * 2 + j = (i * 2 + j) + 1 + 1 by omega, List.getElem?_cons_succ, List.getElem?_cons_succ]
    exact this

/-- the headers, and the pairs whose they are -/
structure Heads (h : Mem) (B : Nat) (hl : List (ByteArray × Sl)) (l : List Pr) : Prop where
  len : hl.length = l.length
  is : ∀ (i : Nat) (q : ByteArray × Sl) (p : Pr), hl[i]? = some q → l[i]? = some p → q.1 = p.key ∧ OwnB h B ty_uint8 q.2 p.val

/-- pairs that a function has made -/
def OwnP (h : Mem) (B : Nat) (s : Sl) (l : List Pr) : Prop := ∃ hl, Owns h B ty_api_Pair 2 s (hcells hl) ∧ Heads h B hl l

theorem OwnP.nil (h : Mem) (B : Nat) : OwnP h B ⟨none, 0, 0⟩ [] := ⟨[], Owns.nil h B _ _, rfl, fun i q p hq => by simp at hq⟩
theorem Heads.ext {h h' : Mem} {B : Nat} {hl : List (ByteArray × Sl)} {l : List Pr} (x : Heads h B hl l) (e : Ext h.size h h') : Heads h' B hl l :=
  ⟨x.len, fun i q p hq hp => let ⟨h1, h2⟩ := x.is i q p hq hp; ⟨h1, Owns.ext h2 e⟩⟩
theorem Heads.grown {h h' : Mem} {B B' : Nat} {hl : List (ByteArray × Sl)} {l : List Pr} (x : Heads h B hl l) {s : Sl} {xs : List Value} (o : Owns h B' ty_api_Pair 2 s xs) (g : Grown s h h') : Heads h' B hl l :=
  ⟨x.len, fun i q p hq hp => let ⟨h1, h2⟩ := x.is i q p hq hp; ⟨h1, Owns.grown h2 o (by decide) g⟩⟩
theorem OwnP.ext {h h' : Mem} {B : Nat} {s : Sl} {l : List Pr} (x : OwnP h B s l) (e : Ext h.size h h') : OwnP h' B s l := let ⟨hl, o, hh⟩ := x; ⟨hl, o.ext e, hh.ext e⟩
theorem OwnP.len {h : Mem} {B : Nat} {s : Sl} {l : List Pr} (x : OwnP h B s l) : s.len = l.length := by
  obtain ⟨hl, o, hh⟩ := x
  have := o.1
  rw [hcells_length, hh.len] at this
  omega
theorem OwnP.pairs {h : Mem} {B : Nat} {s : Sl} {l : List Pr} (x : OwnP h B s l) : PairsAt h s l := by
  have hlen := x.len
  obtain ⟨hl, o, hh⟩ := x
  refine ⟨hlen, fun i p hp => ?_, fun hn => (Owns.nil0 o hn).2⟩
  have hi := (List.getElem?_eq_some_iff.1 hp).1
  obtain ⟨a, ha⟩ := o.some (by omega)
  obtain ⟨g, rfl⟩ := o.addr ha
  obtain ⟨q, hq⟩ : ∃ q, hl[i]? = some q := ⟨_, List.getElem?_eq_getElem (by rw [hh.len]; exact hi)⟩
  obtain ⟨h1, h2⟩ := hh.is i q p hq hp
  refine ⟨_, ha, q.2, fun j v hv => ?_, h2.bytes⟩
  rw [← h1] at hv
  have := o.cells ha (i * 2 + j) v (hcells_get hq j v hv)
  rw [add_off] at this
  rw [add_off, add_off]
  simpa [Nat.add_assoc] using this

/-- a pair is appended -/
theorem OwnP.push {B : Nat} {s : Sl} {l : List Pr} {a : Addr} {p : Pr} {v : Sl} {K : Sl → Mem → Prop} (hB : B ≤ h.size) (x : OwnP h B s l) (hc : Cells h a (pcells p.key v)) (hv : OwnB h B ty_uint8 v p.val) (hs : (l.length + 1) * 40 ≤ 140737488355328)
    (hk : ∀ s' h', OwnP h' B s' (l ++ [p]) → Ext B h h' → Grown s h h' → K s' h') :
    PrimT PG (Builtin.append_ #[ty_sl_api_Pair, ty_sl_api_Pair] ty_sl_api_Pair #[sval s, sval ⟨some a, 1, 1⟩]) (.one (.leaf .sl)) h K := by
  have hlen := x.len
  obtain ⟨hl, o, hh⟩ := x
  refine append_go (v := ⟨some a, 1, 1⟩) und_pairs info_pair o (news := pcells p.key v) rfl (fun b hb => by cases hb; exact hc) (fun hn => by cases hn) ?_ (by rw [hlen]; exact hs) (by decide) hB fun s' h' _ ho g => hk s' h' ⟨hl ++ [(p.key, v)], ?_, ?_, ?_⟩ (o.grownExt hB g) g
  · intro u hu
    simp only [pcells, List.mem_cons, List.not_mem_nil, or_false] at hu
    rcases hu with rfl | rfl <;> rfl
  · rw [hcells_append]; exact ho
  · rw [List.length_append, List.length_append, hh.len]; rfl
  · intro i q r hq hr
    have hh' := hh.grown o g
    rcases Nat.lt_or_ge i hl.length with hi | hi
    · rw [List.getElem?_append_left hi] at hq
      rw [List.getElem?_append_left (by rw [← hh.len]; exact hi)] at hr
      exact hh'.is i q r hq hr
    · rw [List.getElem?_append_right hi] at hq
      rw [List.getElem?_append_right (by rw [← hh.len]; exact hi)] at hr
      rw [← hh.len] at hr
      cases hd : i - hl.length with
      | zero => rw [hd] at hq hr; cases hq; cases hr; exact ⟨rfl, Owns.grown hv o (by decide) g⟩
      | succ k => rw [hd] at hq; simp at hq
end
end Go.Dn.W
