/- Small things: numbers, cells of one value, calls of function values, loops over functions. -/
import Derived.Test.YtbipdjmdacelkaaGreatDnPair
import Derived.Test.YtbipdjmdacelkaaGreatDnArg
set_option linter.unusedVariables false
namespace Go.Dn.W
open Go Go.Dn Go.Proofs

/-! ### numbers -/
theorem u64_eq {n : Nat} (h : n ≤ 18446744073709551615) : IntKind.u64.wrap (n : Int) = (n : Int) := by simp [IntKind.wrap, IntKind.bits, IntKind.signed]; omega
theorem u32_eq {n : Nat} (h : n ≤ 4294967295) : IntKind.u32.wrap (n : Int) = (n : Int) := by simp [IntKind.wrap, IntKind.bits, IntKind.signed]; omega
theorem nat_mul (m k : Nat) : (m : Int).toNat * k = m * k := by rw [Int.toNat_natCast]
theorem wrap_succ {m : Nat} (h : m ≤ 140737488355328) : IntKind.i64.wrap ((m : Int) + 1) = ((m + 1 : Nat) : Int) := by rw [i64_eq (by omega) (by omega)]; omega
theorem i64_nat {m : Nat} (h : m ≤ 9223372036854775807) : IntKind.i64.wrap (m : Int) = (m : Int) := i64_eq (by omega) (by omega)
theorem i64_add {m n : Nat} (h : m + n ≤ 9223372036854775807) : IntKind.i64.wrap ((m : Int) + (n : Int)) = ((m + n : Nat) : Int) := by rw [i64_eq (by omega) (by omega)]; omega
theorem i64_sub {m n : Nat} (h : n ≤ m) (h2 : m ≤ 9223372036854775807) : IntKind.i64.wrap ((m : Int) - (n : Int)) = ((m - n : Nat) : Int) := by rw [i64_eq (by omega) (by omega)]; omega

theorem Br.mk {c : Bool} {A B : Prop} (ht : c = true → A) (hf : c = false → B) : Br c A B := by
  cases c
  · exact hf rfl
  · exact ht rfl
theorem Br.and {c r : Bool} {A : Prop} {Q : Bool → Prop} (q : Q (c && r)) (hA : Q r → A) : Br c A (Q false) := by
  cases c
  · exact q
  · exact hA q

/-! ### types -/
theorem und_str : PG.underlying ty_string = some .string := by kernel_rfl
theorem agg_str : isAggB PG ty_string = false := by kernel_rfl
theorem und_bool : PG.underlying ty_bool = some .bool := by kernel_rfl
theorem agg_bool : isAggB PG ty_bool = false := by kernel_rfl
theorem und_i : PG.underlying ty_int = some (.int .i64) := by kernel_rfl
theorem agg_i : isAggB PG ty_int = false := by kernel_rfl
theorem und_u : PG.underlying ty_uint64 = some (.int .u64) := by kernel_rfl
theorem agg_u : isAggB PG ty_uint64 = false := by kernel_rfl
theorem und_w : PG.underlying ty_uint32 = some (.int .u32) := by kernel_rfl
theorem agg_w : isAggB PG ty_uint32 = false := by kernel_rfl
theorem und_u8 : PG.underlying ty_uint8 = some (.int .u8) := by kernel_rfl
theorem agg_u8 : isAggB PG ty_uint8 = false := by kernel_rfl
theorem und_ints : PG.underlying ty_sl_int = some (.slice ty_int) := by kernel_rfl
theorem agg_ints : isAggB PG ty_sl_int = false := by kernel_rfl
theorem und_words : PG.underlying ty_sl_uint32 = some (.slice ty_uint32) := by kernel_rfl
theorem agg_words : isAggB PG ty_sl_uint32 = false := by kernel_rfl
theorem und_strs : PG.underlying ty_sl_string = some (.slice ty_string) := by kernel_rfl
theorem agg_strs : isAggB PG ty_sl_string = false := by kernel_rfl
theorem und_refs : PG.underlying ty_sl_api_Ref = some (.slice ty_api_Ref) := by kernel_rfl
theorem agg_refs : isAggB PG ty_sl_api_Ref = false := by kernel_rfl
theorem und_bytes : PG.underlying ty_sl_uint8 = some (.slice ty_uint8) := by kernel_rfl
theorem agg_bytes : isAggB PG ty_sl_uint8 = false := by kernel_rfl
theorem und_map : PG.underlying ty_map_int_bool = some (.map ty_int ty_bool) := by kernel_rfl
theorem agg_map : isAggB PG ty_map_int_bool = false := by kernel_rfl
theorem und_pa : ∃ d, PG.underlying ty_ptr_arena_Arena = some d := Option.isSome_iff_exists.1 (by kernel_rfl)
theorem agg_pa : isAggB PG ty_ptr_arena_Arena = false := by kernel_rfl
theorem und_pf : ∃ d, PG.underlying ty_ptr_btree_Forest = some d := Option.isSome_iff_exists.1 (by kernel_rfl)
theorem agg_pf : isAggB PG ty_ptr_btree_Forest = false := by kernel_rfl
theorem und_has : ∃ d, PG.underlying ty_func_int_bool = some d := Option.isSome_iff_exists.1 (by kernel_rfl)
theorem agg_has : isAggB PG ty_func_int_bool = false := by kernel_rfl
theorem info_i : infoOk PG ty_int 1 8 = true := by kernel_rfl
theorem info_w : infoOk PG ty_uint32 1 4 = true := by kernel_rfl
theorem info_s : infoOk PG ty_string 1 16 = true := by kernel_rfl
theorem info_ref : infoOk PG ty_api_Ref 3 24 = true := by kernel_rfl
theorem und_ref : ∃ d, PG.underlying ty_api_Ref = some d := Option.isSome_iff_exists.1 (by kernel_rfl)
theorem agg_ref : isAggB PG ty_api_Ref = true := by kernel_rfl
theorem sz_ref : szOf PG ty_api_Ref = 3 := by kernel_rfl
theorem und_obj : ∃ d, PG.underlying ty_api_Object = some d := Option.isSome_iff_exists.1 (by kernel_rfl)
theorem agg_obj : isAggB PG ty_api_Object = true := by kernel_rfl
theorem sz_obj : szOf PG ty_api_Object = 3 := by kernel_rfl
theorem und_node : ∃ d, PG.underlying ty_btree_node = some d := Option.isSome_iff_exists.1 (by kernel_rfl)
theorem agg_node : isAggB PG ty_btree_node = true := by kernel_rfl
theorem sz_node : szOf PG ty_btree_node = 3 := by kernel_rfl

abbrev sval (s : Sl) : Value := .slice s.a s.len s.cap
def wcell (n : Nat) : Value := .int .u32 (n : Int)
def icell (n : Nat) : Value := .int .i64 (n : Int)
def scell (s : ByteArray) : Value := .string s

section
variable {h : Mem}
theorem row_cell {b o : Nat} {c : Array Value} {e : TypeId} {fz : Nat × Nat} {v : Value} (hb : h[b]? = some (.cells c e fz)) (hv : c[o]? = some v) : cellAt h ⟨b, o, none⟩ = some v := by rw [cellAt_row hb]; exact hv
theorem row_at {b o : Nat} {c : Array Value} {e : TypeId} {fz : Nat × Nat} {v : Value} (hb : h[b]? = some (.cells c e fz)) (hv : c[o]? = some v) : cellAt h ((⟨b, 0, none⟩ : Addr).add o) = some v := by rw [add_off, Nat.zero_add]; exact row_cell hb hv
theorem Ld.i {a : Addr} {n : Int} {K : Int → Prop} (hc : cellAt h a = some (.int .i64 n)) (hk : K n) : Ld PG ty_int a (.one (.leaf (.int .i64))) h K := Ld.cell (l := .int .i64) und_i agg_i hc hk
theorem Ld.u {a : Addr} {n : Int} {K : Int → Prop} (hc : cellAt h a = some (.int .u64 n)) (hk : K n) : Ld PG ty_uint64 a (.one (.leaf (.int .u64))) h K := Ld.cell (l := .int .u64) und_u agg_u hc hk
theorem Ld.w {a : Addr} {n : Int} {K : Int → Prop} (hc : cellAt h a = some (.int .u32 n)) (hk : K n) : Ld PG ty_uint32 a (.one (.leaf (.int .u32))) h K := Ld.cell (l := .int .u32) und_w agg_w hc hk
theorem Ld.str {a : Addr} {k : ByteArray} {K : ByteArray → Prop} (hc : cellAt h a = some (.string k)) (hk : K k) : Ld PG ty_string a (.one (.leaf .str)) h K := Ld.cell (l := .str) und_str agg_str hc hk
theorem Ld.ints {a : Addr} {v : Sl} {K : Sl → Prop} (hc : cellAt h a = some (sval v)) (hk : K v) : Ld PG ty_sl_int a (.one (.leaf .sl)) h K := Ld.cell (l := .sl) und_ints agg_ints hc hk
theorem Ld.words {a : Addr} {v : Sl} {K : Sl → Prop} (hc : cellAt h a = some (sval v)) (hk : K v) : Ld PG ty_sl_uint32 a (.one (.leaf .sl)) h K := Ld.cell (l := .sl) und_words agg_words hc hk
theorem Ld.strs {a : Addr} {v : Sl} {K : Sl → Prop} (hc : cellAt h a = some (sval v)) (hk : K v) : Ld PG ty_sl_string a (.one (.leaf .sl)) h K := Ld.cell (l := .sl) und_strs agg_strs hc hk
theorem Ld.refs {a : Addr} {v : Sl} {K : Sl → Prop} (hc : cellAt h a = some (sval v)) (hk : K v) : Ld PG ty_sl_api_Ref a (.one (.leaf .sl)) h K := Ld.cell (l := .sl) und_refs agg_refs hc hk
theorem Ld.map {a : Addr} {m : Option Nat} {K : Option Nat → Prop} (hc : cellAt h a = some (.map m)) (hk : K m) : Ld PG ty_map_int_bool a (.one (.leaf .map)) h K := Ld.cell (l := .map) und_map agg_map hc hk
theorem Ld.pa {a : Addr} {p : Option Addr} {K : Option Addr → Prop} (hc : cellAt h a = some (.pointer p)) (hk : K p) : Ld PG ty_ptr_arena_Arena a (.one (.leaf .ptr)) h K := by
  obtain ⟨d, hd⟩ := und_pa
  exact Ld.cell (l := .ptr) hd agg_pa hc hk
theorem Ld.pf {a : Addr} {p : Option Addr} {K : Option Addr → Prop} (hc : cellAt h a = some (.pointer p)) (hk : K p) : Ld PG ty_ptr_btree_Forest a (.one (.leaf .ptr)) h K := by
  obtain ⟨d, hd⟩ := und_pf
  exact Ld.cell (l := .ptr) hd agg_pf hc hk
theorem Ld.has {a : Addr} {v : Value} {K : Value → Prop} (hc : cellAt h a = some v) (hk : K v) : Ld PG ty_func_int_bool a (.one (.leaf .raw)) h K := by
  obtain ⟨d, hd⟩ := und_has
  exact Ld.cell (l := .raw) hd agg_has hc hk
def rfcells (x y z : Int) : List Value := [.int .u64 x, .int .i64 y, .int .i64 z]
theorem Ld.ref {a : Addr} {x y z : Int} {K : Int → Int → Int → Prop} (hc : Cells h a (rfcells x y z)) (hk : K x y z) : Ld PG ty_api_Ref a (.one (.agg [.int .u64, .int .i64, .int .i64])) h K := by
  obtain ⟨t, hd⟩ := und_ref
  exact Ld.agg hd agg_ref sz_ref rfl hc ⟨_, .int _ _, _, .int _ _, _, .int _ _, hk⟩
def objcells (k : Int) (p d : Sl) : List Value := [.int .i64 k, sval p, sval d]
theorem Ld.obj {a : Addr} {k : Int} {p d : Sl} {K : Int → Sl → Sl → Prop} (hc : Cells h a (objcells k p d)) (hk : K k p d) : Ld PG ty_api_Object a (.one (.agg [.int .i64, .sl, .sl])) h K := by
  obtain ⟨t, hd⟩ := und_obj
  exact Ld.agg hd agg_obj sz_obj rfl hc ⟨_, .int _ _, _, .sl _ _ _, _, .sl _ _ _, hk⟩
def ndcells (k r p : Sl) : List Value := [sval k, sval r, sval p]
theorem Ld.node {a : Addr} {k r p : Sl} {K : Sl → Sl → Sl → Prop} (hc : Cells h a (ndcells k r p)) (hk : K k r p) : Ld PG ty_btree_node a (.one (.agg [.sl, .sl, .sl])) h K := by
  obtain ⟨t, hd⟩ := und_node
  exact Ld.agg hd agg_node sz_node rfl hc ⟨_, .sl _ _ _, _, .sl _ _ _, _, .sl _ _ _, hk⟩
/-- all of a row is stored anew -/
theorem St.all {t e : TypeId} {vs : List Value} {b : Nat} {c0 : Array Value} {v : Value} {K : Mem → Prop} (hu : ∃ d, PG.underlying t = some d) (hv : v.cells = vs.toArray) (hsz : szOf PG t = vs.length) (h1 : ∀ u ∈ vs, u.oneCell' = true)
    (hr : h[b]? = some (.cells c0 e (0, 0))) (h0 : c0.size = vs.length) (hk : ∀ h', Upd b h h' → h'[b]? = some (.cells vs.toArray e (0, 0)) → K h') : St PG t ⟨b, 0, none⟩ v h K := by
  obtain ⟨d, hd⟩ := hu
  refine St.row hd hv hsz h1 hr (by rw [h0, Nat.zero_add]; exact Nat.le_refl _) fun h' u r => hk h' u ?_
  rw [r]
  congr 2
  apply Array.ext'
  simp only [List.take_zero, List.nil_append]
  rw [List.drop_eq_nil_of_le (by rw [Array.length_toList, h0]; omega), List.append_nil]

/-! ### calls of function values -/
theorem callV_bound {P : Program} {g : FuncId} {args first bound : List Value} {kd : Kd} {h : Mem} {K : Cur (Mem → Prop) kd.leaves} (c : CallF P g (first ++ args ++ bound) kd h K) : CallV P (.func (.func g) first.toArray bound.toArray) args kd h K := by
  intro w hw
  have := c w hw
  simp only [Deferred.ofValue, Sem.run_bind, Sem.run_pure, Result.andThen_ok, invoke]
  rw [show first.toArray ++ args.toArray ++ bound.toArray = (first ++ args ++ bound).toArray by simp]
  exact this
def goB (P : Program) (g : FuncId) : Bool := match nth P.funcs.toList g with | some fn => !(fn.name == "runtime.NumGoroutine") && fn.body.isSome | none => false
theorem enterV_bound {P : Program} {g : FuncId} {args first bound : List Value} {kd : Kd} {h : Mem} {K : Cur (Mem → Prop) kd.leaves} (hg : goB P g = true) (c : CallF P g (first ++ args ++ bound) kd h K) : EnterV P (.func (.func g) first.toArray bound.toArray) args kd h K := by
  intro w hw
  have hc := c w hw
  unfold goB at hg
  simp only [nth_eq, Array.getElem?_toList] at hg
  cases hf : P.funcs[g]? with
  | none => rw [hf] at hg; cases hg
  | some fn =>
    rw [hf] at hg
    simp only [Bool.and_eq_true, Bool.not_eq_true'] at hg
    obtain ⟨body, hb⟩ := Option.isSome_iff_exists.1 hg.2
    have hr : ∀ vs : Array Value, (callFunc g vs).run P w = .ok (.enter g vs) w := fun vs => by
      have hne := beq_eq_false_iff_ne.1 hg.1
      simp [callFunc, hf, hne, hb]
    rw [hr] at hc
    refine ⟨g, _, w, ?_, hc⟩
    simp only [Deferred.ofValue, Sem.run_bind, Sem.run_pure, Result.andThen_ok, invoke]
    rw [show first.toArray ++ args.toArray ++ bound.toArray = (first ++ args ++ bound).toArray by simp]
    exact hr _
end

/-! ### lists of single values -/
section
variable {h : Mem} {α : Type}
theorem Owns.len1 {B : Nat} {e : TypeId} {s : Sl} {l : List Value} (o : Owns h B e 1 s l) : s.len = l.length := by
  have := o.1
  simpa using this.symm
theorem Owns.cap1 {B size : Nat} {e : TypeId} {s : Sl} {l : List Value} (o : Owns h B e size s l) : s.len ≤ s.cap := by
  rcases o.2 with ⟨hv, _⟩ | ⟨g, cap, cur, hv, _, _, hc, _⟩
  · simp only [Value.slice.injEq] at hv; rw [hv.2.1, hv.2.2]; exact Nat.le_refl _
  · simp only [Value.slice.injEq] at hv; rw [hv.2.2]; exact hc
/-- a slice whose values can be read -/
structure Els (h : Mem) (s : Sl) (l : List Value) : Prop where
  len : s.len = l.length
  at_ : ∀ (i : Nat) (v : Value), l[i]? = some v → ∃ a, s.a = some a ∧ cellAt h (a.add i) = some v
  nil : s.a = none → s.len = 0 ∧ s.cap = 0
  cap : s.len ≤ s.cap
theorem Els.ext {h' : Mem} {s : Sl} {l : List Value} (x : Els h s l) (e : Ext h.size h h') : Els h' s l := ⟨x.len, fun i v hv => let ⟨a, ha, hc⟩ := x.at_ i v hv; ⟨a, ha, e.cellAt (cellAt_lt hc) hc⟩, x.nil, x.cap⟩
theorem Els.isNil (h : Mem) : Els h ⟨none, 0, 0⟩ [] := ⟨rfl, fun i v hv => by simp at hv, fun _ => ⟨rfl, rfl⟩, Nat.le_refl _⟩
theorem Els.get {s : Sl} {l : List Value} (x : Els h s l) {i : Nat} {v : Value} (hv : l[i]? = some v) {K : Addr → Prop} (hk : ∀ a, s.a = some a → cellAt h (a.add i) = some v → K a) : Idx s.a s.len (i : Int) K := by
  obtain ⟨a, ha, hc⟩ := x.at_ i v hv
  exact Idx.mk ha (by rw [x.len]; exact (List.getElem?_eq_some_iff.1 hv).1) (hk a ha hc)
theorem Owns.els {B : Nat} {e : TypeId} {s : Sl} {l : List Value} (o : Owns h B e 1 s l) : Els h s l := by
  refine ⟨Owns.len1 o, fun i v hv => ?_, fun hn => Owns.nil0 o hn, Owns.cap1 o⟩
  obtain ⟨a, ha⟩ := Owns.some o (by rw [Owns.len1 o]; have := (List.getElem?_eq_some_iff.1 hv).1; omega)
  exact ⟨a, ha, Owns.cells o ha i v hv⟩
theorem Els.one {b : Nat} {v : Value} {e : TypeId} {fz : Nat × Nat} (hb : h[b]? = some (.cells #[v] e fz)) : Els h ⟨some ⟨b, 0, none⟩, 1, 1⟩ [v] :=
  ⟨rfl, fun i u hu => by
    match i, hu with
    | 0, hu => cases hu; exact ⟨_, rfl, row_at hb rfl⟩
    | i + 1, hu => simp at hu, (fun hn => by cases hn), Nat.le_refl _⟩
theorem Els.cells {s : Sl} {l : List Value} (x : Els h s l) : ∀ a, s.a = some a → Cells h a l := fun a ha i v hv => by
  obtain ⟨b, hb, hc⟩ := x.at_ i v hv
  rw [ha] at hb; cases hb; exact hc
theorem Els.part {s : Sl} {l : List Value} {a n : Nat} (g : Els h s l) (h1 : a + n ≤ l.length) {K : Sl → Prop} (hk : ∀ s', Els h s' ((l.drop a).take n) → K s') : Cut 1 s.a s.len s.cap (some (a : Int)) (some ((a + n : Nat) : Int)) none K := by
  have hl := g.len
  have hc := g.cap
  refine Cut.both (by omega) (by omega) (hk _ ⟨?_, fun i v hv => ?_, fun hn => ?_, ?_⟩)
  · show a + n - a = _
    rw [List.length_take, List.length_drop]; omega
  · rw [List.getElem?_take] at hv
    split at hv
    · rw [List.getElem?_drop] at hv
      obtain ⟨b, hb, hcell⟩ := g.at_ _ v hv
      refine ⟨b.add (a * 1), ?_, by rw [Nat.mul_one, add_add']; exact hcell⟩
      unfold cutSl
      dsimp only
      rw [if_neg (by omega), hb]
      rfl
    · cases hv
  · unfold cutSl at hn ⊢
    dsimp only at hn ⊢
    split at hn
    · have := g.nil hn; omega
    · cases hb : s.a with
      | none => have := g.nil hb; omega
      | some p => rw [hb] at hn; cases hn
  · show a + n - a ≤ s.cap - a
    omega
/-- values are put behind -/
theorem Owns.put {B : Nat} {t e : TypeId} {bytes : Nat} {s v : Sl} {xs l : List Value} (ht : PG.underlying t = some (.slice e)) (hi : infoOk PG e 1 bytes = true) (hb0 : 0 < bytes) (o : Owns h B e 1 s xs) (x : Els h v l) (h1 : ∀ u ∈ l, u.oneCell' = true)
    (hs : (xs.length + l.length) * bytes ≤ 140737488355328) (hB : B ≤ h.size) {K : Sl → Mem → Prop} (hk : ∀ s' h', Owns h' B e 1 s' (xs ++ l) → Grown s h h' → K s' h') :
    PrimT PG (Builtin.append_ #[t, t] t #[.slice s.a s.len s.cap, .slice v.a v.len v.cap]) (.one (.leaf .sl)) h K :=
  append_go ht hi o (by rw [x.len, Nat.mul_one]) x.cells x.nil h1 (by rw [Owns.len1 o, x.len]; exact hs) hb0 hB fun s' h' _ o' g => hk s' h' o' g
end
end Go.Dn.W
