/- Cursors: their state; stepping upwards; what they tell. -/
import Derived.Test.YtbipdjmdacelkaaGreatDnLn
import Derived.Test.YtbipdjmdacelkaaGreatDnWC
set_option linter.unusedVariables false
namespace Go.Dn.W
open Go Go.Dn Go.Proofs

abbrev emp : ByteArray := ByteArray.mk #[]
structure Cu where
  root : Nat
  lo : ByteArray
  hi : ByteArray
  st : Bool
  key : ByteArray
def cucells (kf : Nat) (c : Cu) : List Value := [.pointer (some ⟨kf, 0, none⟩), .int .i64 (c.root : Int), .string c.lo, .string c.hi, .bool c.st, .string c.key]
def CuIs (h : Mem) (kc kf : Nat) (c : Cu) : Prop := h[kc]? = some (.cells (cucells kf c).toArray ty_cursor_Cursor (0, 0))
def within (lo hi k : ByteArray) : Bool := (sLt lo k || sEq lo k) && (sEq hi emp || sLt k hi)
def Cu.at' (c : Cu) (key : ByteArray) (is : Bool) : Cu := { c with st := is && within c.lo c.hi key, key := if (is && within c.lo c.hi key) = true then key else emp }
/-- one block has turned, and there are new ones -/
structure Turn (k : Nat) (h h' : Mem) : Prop where
  size : h.size ≤ h'.size
  block : ∀ j, j < h.size → j ≠ k → h'[j]? = h[j]?
theorem Turn.refl (k : Nat) (h : Mem) : Turn k h h := ⟨Nat.le_refl _, fun _ _ _ => rfl⟩
theorem Turn.trans {k : Nat} {a b c : Mem} (x : Turn k a b) (y : Turn k b c) : Turn k a c := ⟨Nat.le_trans x.size y.size, fun j hj hn => (y.block j (Nat.lt_of_lt_of_le hj x.size) hn).trans (x.block j hj hn)⟩
theorem Turn.ext {k : Nat} {h h' : Mem} (x : Ext h.size h h') : Turn k h h' := ⟨x.size, fun j hj _ => x.block j hj⟩
theorem Turn.upd {k : Nat} {h h' : Mem} (u : Upd k h h') : Turn k h h' := ⟨Nat.le_of_eq u.size.symm, fun j _ hn => u.block j hn⟩
theorem Turn.row {k j : Nat} {h h' : Mem} {c : Array Value} {e : TypeId} {fz : Nat × Nat} (x : Turn k h h') (r : h[j]? = some (.cells c e fz)) (hn : j ≠ k) : h'[j]? = some (.cells c e fz) := (x.block j (row_lt r) hn).trans r
theorem Turn.low {k n : Nat} {h h' : Mem} (x : Turn k h h') (h1 : n ≤ h.size) (h2 : n ≤ k) : Ext n h h' := ⟨x.size, fun j hj => x.block j (by omega) (by omega)⟩
theorem FoIs.turn {h h' : Mem} {kf ka k : Nat} {A : Ar} {L : Nat → List En} {c : Array Value} {e : TypeId} {fz : Nat × Nat} (f : FoIs h kf ka A L) (r : h[k]? = some (.cells c e fz)) (x : Turn k h h') (h1 : e ≠ ty_arena_Arena) (h2 : e ≠ ty_uint32) (h3 : e ≠ ty_int) (h4 : e ≠ ty_btree_Forest) : FoIs h' kf ka A L := by
  have sf := safeT f.f.a r h1 h2 h3
  have frm : ∀ j, InAr h ka j → h'[j]? = h[j]? := fun j hj => x.block j (below_ar f.f.a hj) fun e => sf.2 (e ▸ hj)
  exact ⟨⟨x.row f.f.r (ne_row f.f.r r fun e => h4 e.symm), f.f.a.frame frm⟩, f.ok, f.rl, f.rt, f.srt, f.ent⟩
theorem und_pc : ∃ d, PG.underlying ty_ptr_cursor_Cursor = some d := Option.isSome_iff_exists.1 (by kernel_rfl)
theorem agg_pc : isAggB PG ty_ptr_cursor_Cursor = false := by kernel_rfl
section
variable {h : Mem} {ka kf kc : Nat} {A : Ar} {L : Nat → List En} {c : Cu}
theorem Ld.pc {a : Addr} {p : Option Addr} {K : Option Addr → Prop} (hc : cellAt h a = some (.pointer p)) (hk : K p) : Ld PG ty_ptr_cursor_Cursor a (.one (.leaf .ptr)) h K := by
  obtain ⟨d, hd⟩ := und_pc
  exact Ld.cell (l := .ptr) hd agg_pc hc hk
theorem Ld.b {a : Addr} {b : Bool} {K : Bool → Prop} (hc : cellAt h a = some (.bool b)) (hk : K b) : Ld PG ty_bool a (.one (.leaf .bool)) h K := Ld.cell (l := .bool) und_bool agg_bool hc hk
theorem CuIs.turn {k : Nat} {h' : Mem} (x : CuIs h kc kf c) (t : Turn k h h') (hn : kc ≠ k) : CuIs h' kc kf c := t.row x hn
theorem CuIs.ext {h' : Mem} (x : CuIs h kc kf c) (t : Ext h.size h h') : CuIs h' kc kf c := t.row' x
theorem ct_Within {lo hi k : ByteArray} {Q : Bool → Mem → Prop} (q : Q (within lo hi k) h) : CallF PG fn_keys_Within [.string lo, .string hi, .string k] (.one (.leaf .bool)) h Q := by
  refine call_keys_Within (Br.mk (fun h1 => Br.mk (fun h2 => ?_) fun h2 => ?_) fun h1 => ?_)
  · unfold within at q; rw [h1, h2] at q; exact q
  · unfold within at q; rw [h1, h2] at q; exact q
  · unfold within at q; rw [h1] at q; exact q
theorem ct_at {key : ByteArray} {is : Bool} {Q : Bool → Mem → Prop} (x : CuIs h kc kf c) (q : ∀ h', Upd kc h h' → CuIs h' kc kf (c.at' key is) → Q (c.at' key is).st h') :
    CallF PG fn_cursor_Cursor_at [.pointer (some ⟨kc, 0, none⟩), .string key, .bool is] (.one (.leaf .bool)) h Q := by
  have sb : szOf PG ty_bool = 1 := by kernel_rfl
  have ss : szOf PG ty_string = 1 := by kernel_rfl
  have fin : ∀ (s : Bool), (is && within c.lo c.hi key) = s → (St PG ty_bool ((⟨kc, 0, none⟩ : Addr).add 4) (Value.bool s) h fun (h8 : Mem) => St PG ty_string ((⟨kc, 0, none⟩ : Addr).add 5) (Value.string (ByteArray.mk #[])) h8 fun (h10 : Mem) =>
      Ld PG ty_bool ((⟨kc, 0, none⟩ : Addr).add 4) (Kd.one (Cmp.leaf Leaf.bool)) h10 fun (b12 : Bool) => Br b12 (St PG ty_string ((⟨kc, 0, none⟩ : Addr).add 5) (Value.string key) h10 fun (h14 : Mem) => Ld PG ty_bool ((⟨kc, 0, none⟩ : Addr).add 4) (Kd.one (Cmp.leaf Leaf.bool)) h14 fun (b16 : Bool) => Q b16 h14)
        (Ld PG ty_bool ((⟨kc, 0, none⟩ : Addr).add 4) (Kd.one (Cmp.leaf Leaf.bool)) h10 fun (b18 : Bool) => Q b18 h10)) := by
    intro s hs
    refine St.at1 (o := 4) ⟨_, und_bool⟩ sb rfl rfl x (by show 4 < 6; decide) fun h8 u8 r8 => ?_
    refine St.at1 (o := 5) ⟨_, und_str⟩ ss rfl rfl r8 (by show 5 < 6; decide) fun h10 u10 r10 => ?_
    have u : Upd kc h h10 := ⟨u10.size.trans u8.size, fun j hj => (u10.block j hj).trans (u8.block j hj)⟩
    refine Ld.b (row_at r10 rfl) (Br.mk (fun h1 => ?_) fun h1 => ?_)
    · refine St.at1 (o := 5) ⟨_, und_str⟩ ss rfl rfl r10 (by show 5 < 6; decide) fun h14 u14 r14 => Ld.b (row_at r14 rfl) ?_
      have := q h14 ⟨u14.size.trans u.size, fun j hj => (u14.block j hj).trans (u.block j hj)⟩ (by unfold CuIs Cu.at' cucells; rw [hs, h1]; rw [h1] at r14; exact r14)
      rw [show (c.at' key is).st = s from hs] at this
      exact this
    · refine Ld.b (row_at r10 rfl) ?_
      have := q h10 u (by unfold CuIs Cu.at' cucells; rw [hs, h1]; rw [h1] at r10; exact r10)
      rw [show (c.at' key is).st = s from hs] at this
      exact this
  refine call_cursor_Cursor_at (Br.mk (fun h1 => ?_) fun h1 => ?_)
  · show Ld _ _ _ _ _ _
    refine Ld.str (row_at x rfl) ?_
    show Ld _ _ _ _ _ _
    refine Ld.str (row_at x rfl) (ct_Within ?_)
    exact fin (within c.lo c.hi key) (by rw [h1]; rfl)
  · exact fin false (by rw [h1]; rfl)
/-- upwards -/
def Cu.up (L : Nat → List En) (c : Cu) (text : ByteArray) : Cu := c.at' ((seekL (L c.root) (bif !sLt text c.lo then text else c.lo)).getD en0).1 (seekL (L c.root) (bif !sLt text c.lo then text else c.lo)).isSome
theorem ct_above {text : ByteArray} {Q : Bool → Mem → Prop} (f : FoIs h kf ka A L) (x : CuIs h kc kf c) (hr : c.root < 16) (q : ∀ h', FoIs h' kf ka A L → CuIs h' kc kf (c.up L text) → Turn kc h h' → Q (c.up L text).st h') :
    CallF PG fn_cursor_Cursor_above [.pointer (some ⟨kc, 0, none⟩), .string text] (.one (.leaf .bool)) h Q := by
  have hkc := row_lt x
  refine call_cursor_Cursor_above ?_
  show Ld _ _ _ _ _ _
  refine Ld.pf (row_cell x rfl) ?_
  show Ld _ _ _ _ _ _
  refine Ld.i (row_at x rfl) ?_
  show Ld _ _ _ _ _ _
  refine Ld.str (row_at x rfl) ⟨ct_Seek f hr fun h12 x12 e he => New.go fun h14 _ x14 z14 r14 => ?_, New.go fun h19 _ x19 z19 r19 => ?_⟩
  · refine St.all und_ref rfl (vs := rfv e.2) sz_ref one_rf r14 rfl fun h15 u15 r15 => ?_
    have x15 : Ext h.size h h15 := x12.after (x14.trans (u15.ext (Nat.le_refl _)))
    refine ct_at (x.ext x15) fun h17 u17 c17 => ?_
    rw [he] at c17 ⊢
    exact q h17 ((f.ext x15).turn (x.ext x15) (.upd u17) (by decide) (by decide) (by decide) (by decide)) c17 ((Turn.ext x15).trans (.upd u17))
  · have x19c := x.ext x19
    refine ⟨Ld.str (row_at x19c rfl) rfl, Ld.i (row_at x19c rfl) rfl, Ld.pf (row_cell x19c rfl) rfl, ?_⟩
    refine ct_Seek (f.ext x19) hr fun h12 x12 e he => ?_
    refine St.all und_ref rfl (vs := rfv e.2) sz_ref one_rf (x12.row' r19) rfl fun h15 u15 r15 => ?_
    have x15 : Ext h.size h h15 := (x19.after x12).trans (u15.ext (Nat.le_refl _))
    refine ct_at (x.ext x15) fun h17 u17 c17 => ?_
    rw [he] at c17 ⊢
    exact q h17 ((f.ext x15).turn (x.ext x15) (.upd u17) (by decide) (by decide) (by decide) (by decide)) c17 ((Turn.ext x15).trans (.upd u17))
theorem ct_First {Q : Bool → Mem → Prop} (f : FoIs h kf ka A L) (x : CuIs h kc kf c) (hr : c.root < 16) (q : ∀ h', FoIs h' kf ka A L → CuIs h' kc kf (c.up L c.lo) → Turn kc h h' → Q (c.up L c.lo).st h') :
    CallF PG fn_cursor_Cursor_First [.pointer (some ⟨kc, 0, none⟩)] (.one (.leaf .bool)) h Q := by
  refine call_cursor_Cursor_First (Br.t rfl ?_)
  show Ld _ _ _ _ _ _
  exact Ld.str (row_at x rfl) (ct_above f x hr q)
theorem ct_SeekC {key : ByteArray} {Q : Bool → Mem → Prop} (f : FoIs h kf ka A L) (x : CuIs h kc kf c) (hr : c.root < 16) (q : ∀ h', FoIs h' kf ka A L → CuIs h' kc kf (c.up L key) → Turn kc h h' → Q (c.up L key).st h') :
    CallF PG fn_cursor_Cursor_Seek [.pointer (some ⟨kc, 0, none⟩), .string key] (.one (.leaf .bool)) h Q := call_cursor_Cursor_Seek (Br.t rfl (ct_above f x hr q))
/-- one step upwards -/
def Cu.next (L : Nat → List En) (c : Cu) : Cu := if c.st = true then c.up L (c.key ++ ByteArray.mk #[0]) else c.up L c.lo
theorem ct_Next {Q : Bool → Mem → Prop} (f : FoIs h kf ka A L) (x : CuIs h kc kf c) (hr : c.root < 16) (hk : c.key.size ≤ 64) (q : ∀ h', FoIs h' kf ka A L → CuIs h' kc kf (c.next L) → Turn kc h h' → Q (c.next L).st h') :
    CallF PG fn_cursor_Cursor_Next [.pointer (some ⟨kc, 0, none⟩)] (.one (.leaf .bool)) h Q := by
  refine call_cursor_Cursor_Next (Br.t rfl ?_)
  show Ld _ _ _ _ _ _
  refine Ld.str (row_at x rfl) (call_keys_Next (chk_t (Nat.ble_eq_true_of_le (by omega)) (call_cursor_Cursor_step ?_)))
  show Ld _ _ _ _ _ _
  refine Ld.b (row_at x rfl) (Br.mk (fun h1 => ?_) fun h1 => ?_)
  · have h1 : c.st = false := by simpa using h1
    refine callV_fn (ct_First f x hr fun h' f' c' t' => ?_)
    have e : c.next L = c.up L c.lo := by unfold Cu.next; rw [h1]; rfl
    rw [← e] at c' ⊢
    exact q h' f' c' t'
  · have h1 : c.st = true := by simpa using h1
    refine callV_fn (ct_above f x hr fun h' f' c' t' => ?_)
    have e : c.next L = c.up L (c.key ++ ByteArray.mk #[0]) := by unfold Cu.next; rw [h1]; rfl
    rw [← e] at c' ⊢
    exact q h' f' c' t'
theorem ct_cursorNew {root : Nat} {lo hi : ByteArray} {Q : Option Addr → Int → Mem → Prop} (hr : root < 16) (q : ∀ h', Ext h.size h h' → CuIs h' h.size kf ⟨root, lo, hi, false, emp⟩ → h'.size = h.size + 1 → Q (some ⟨h.size, 0, none⟩) 0 h') :
    CallF PG fn_cursor_New [.pointer (some ⟨kf, 0, none⟩), .int .i64 (root : Int), .string lo, .string hi] (.tup [.leaf .ptr, .leaf (.int .i64)]) h Q := by
  refine call_cursor_New (Br.f rfl (Br.f (by simp) (Br.f (by simp; omega) (New.go fun h5 _ x5 z5 r5 => q h5 x5 r5 z5))))
/-- a new forest -/
theorem ct_btreeNew {n : Nat} {Q : Option Addr → Int → Mem → Prop} (h1 : 16 ≤ n) (h2 : n ≤ 1048576) (q : ∀ kf ka h', Ext h.size h h' → h.size ≤ kf → FoIs h' kf ka (Ar.new n) (fun _ => []) → ArNew h.size h' ka → Q (some ⟨kf, 0, none⟩) 0 h') : CallF PG fn_btree_New [.int .i64 (n : Int)] (.tup [.leaf .ptr, .leaf (.int .i64)]) h Q := by
  refine call_btree_New (ct_arenaNew (fun h3 => by omega) fun m hm h3 h4 h' x' a' an => ?_)
  have hm : n = m := by omega
  subst hm
  refine Br.f rfl (New.go fun h5 _ x5 z5 r5 => q _ h.size h5 (x'.after x5) x'.size ⟨⟨r5, a'.ext x5⟩, ⟨by show 0 < 1; decide, rfl⟩, rfl, fun i hi => ⟨0, ?_, .inl ⟨rfl, rfl⟩⟩, fun i => List.Pairwise.nil, fun i x hx => by simp at hx⟩ (an.keep (x5.block _ a'.lt)))
  show (List.replicate 16 0)[i]? = some 0
  rw [List.getElem?_replicate, if_pos hi]
end
end Go.Dn.W
