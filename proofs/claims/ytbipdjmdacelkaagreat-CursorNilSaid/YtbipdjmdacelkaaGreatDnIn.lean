/- A value put into a slice: slices.Insert of strings, refs, ints. -/
import Derived.Test.YtbipdjmdacelkaaGreatDnRd
import Derived.Test.YtbipdjmdacelkaaGreatDnZer
import Derived.Lib.Overlaps
set_option linter.unusedVariables false
namespace Go.Dn.W
open Go Go.Dn Go.Proofs

theorem cutSl_off {z g n m c : Nat} (hc : c ≠ n) : cutSl z (some ⟨g, 0, none⟩) n m c = ⟨some ⟨g, n * z, none⟩, m - n, c - n⟩ := by
  unfold cutSl
  rw [if_neg hc, Option.map_some, add_off, Nat.zero_add]
/-- slices.Insert, over its element -/
def InsWp (t : TypeId) (z : Nat) (fo fr : FuncId) (s : Sl) (i : Int) (v : Sl) (h : Mem) (Q : Sl → Mem → Prop) : Prop :=
  Cut z s.a s.len s.cap (some i) none none fun (s1 : Sl) =>
    Br ((↑v.len : Int) == 0) (Q (Sl.mk s.a s.len s.cap) h)
      (Br (i == (↑s.len : Int))
        (PrimT PG (Builtin.append_ #[t, t] t #[Value.slice s.a s.len s.cap, Value.slice v.a v.len v.cap]) (Kd.one (Cmp.leaf Leaf.sl)) h fun (s2 : Sl) (h3 : Mem) => Q (Sl.mk s2.a s2.len s2.cap) h3)
        (Br (decide (IntKind.i64.wrap ((↑s.len : Int) + (↑v.len : Int)) > (↑s.cap : Int)))
          (Cut z s.a s.len s.cap none (some i) none fun (s4 : Sl) =>
            PrimT PG (Builtin.append_ #[t, ty_int] t #[Value.slice s4.a s4.len s4.cap, Value.int IntKind.i64 (IntKind.i64.wrap (IntKind.i64.wrap ((↑s.len : Int) + (↑v.len : Int)) - i))]) (Kd.one (Cmp.leaf Leaf.sl)) h fun (s5 : Sl) (h6 : Mem) =>
              Cut z s5.a s5.len s5.cap (some i) none none fun (s7 : Sl) =>
                PrimT PG (Builtin.copy_ #[t, t] ty_int #[Value.slice s7.a s7.len s7.cap, Value.slice v.a v.len v.cap]) (Kd.one (Cmp.leaf (Leaf.int IntKind.i64))) h6 fun (n8 : Int) (h9 : Mem) =>
                  Cut z s5.a s5.len s5.cap (some (IntKind.i64.wrap (i + (↑v.len : Int)))) none none fun (s10 : Sl) =>
                    Cut z s.a s.len s.cap (some i) none none fun (s11 : Sl) =>
                      PrimT PG (Builtin.copy_ #[t, t] ty_int #[Value.slice s10.a s10.len s10.cap, Value.slice s11.a s11.len s11.cap]) (Kd.one (Cmp.leaf (Leaf.int IntKind.i64))) h9 fun (n12 : Int) (h13 : Mem) => Q (Sl.mk s5.a s5.len s5.cap) h13)
          (Cut z s.a s.len s.cap none (some (IntKind.i64.wrap ((↑s.len : Int) + (↑v.len : Int)))) none fun (s14 : Sl) =>
            Cut z s14.a s14.len s14.cap (some (IntKind.i64.wrap (i + (↑v.len : Int)))) none none fun (s15 : Sl) =>
              CallF PG fo [Value.slice v.a v.len v.cap, Value.slice s15.a s15.len s15.cap] (Kd.one (Cmp.leaf Leaf.bool)) h fun (b16 : Bool) (h17 : Mem) =>
                Br (!b16)
                  (Cut z s14.a s14.len s14.cap (some (IntKind.i64.wrap (i + (↑v.len : Int)))) none none fun (s18 : Sl) =>
                    Cut z s14.a s14.len s14.cap (some i) none none fun (s19 : Sl) =>
                      PrimT PG (Builtin.copy_ #[t, t] ty_int #[Value.slice s18.a s18.len s18.cap, Value.slice s19.a s19.len s19.cap]) (Kd.one (Cmp.leaf (Leaf.int IntKind.i64))) h17 fun (n20 : Int) (h21 : Mem) =>
                        Cut z s14.a s14.len s14.cap (some i) none none fun (s22 : Sl) =>
                          PrimT PG (Builtin.copy_ #[t, t] ty_int #[Value.slice s22.a s22.len s22.cap, Value.slice v.a v.len v.cap]) (Kd.one (Cmp.leaf (Leaf.int IntKind.i64))) h21 fun (n23 : Int) (h24 : Mem) => Q (Sl.mk s14.a s14.len s14.cap) h24)
                  (Cut z s14.a s14.len s14.cap (some (↑s.len : Int)) none none fun (s25 : Sl) =>
                    PrimT PG (Builtin.copy_ #[t, t] ty_int #[Value.slice s25.a s25.len s25.cap, Value.slice v.a v.len v.cap]) (Kd.one (Cmp.leaf (Leaf.int IntKind.i64))) h17 fun (n26 : Int) (h27 : Mem) =>
                      Cut z s14.a s14.len s14.cap (some i) none none fun (s28 : Sl) =>
                        CallF PG fr [Value.slice s28.a s28.len s28.cap, Value.int IntKind.i64 (↑v.len : Int)] (Kd.tup []) h27 fun (h29 : Mem) => Q (Sl.mk s14.a s14.len s14.cap) h29))))
/-- slices of unlike rows do not overlap -/
def ApartF (fo : FuncId) : Prop := ∀ {h : Mem} {a b : Addr} {n c m d : Nat} {ca cb : Array Value} {ea eb : TypeId} {Q : Bool → Mem → Prop}, a.block ≠ b.block → h[a.block]? = some (.cells ca ea (0, 0)) → h[b.block]? = some (.cells cb eb (0, 0)) → cb.size ≠ 0 → Q false h →
  CallF PG fo [.slice (some a) n c, .slice (some b) m d] (.one (.leaf .bool)) h Q
theorem apart_of {fo : FuncId} {fn : Func} {t e : TypeId} {size bytes : Nat} (hf : PG.funcs[fo]? = some fn) (hn : (fn.name == "runtime.NumGoroutine") = false) (hb : fn.body.isNone = true) (h1 : Extern.findNext fn = none) (h2 : Extern.find fn = some (Extern.SlicesOverlaps.overlaps #[t, t] #[ty_bool]))
    (ht : PG.underlying t = some (.slice e)) (hi : infoOk PG e size bytes = true) : ApartF fo := by
  intro h a b n c m d ca cb ea eb Q hne ha hb' hcb q
  refine callF_row hf hn hb h1 h2 ?_
  intro w hw
  subst hw
  obtain ⟨i, z, hi', hz, hsz, hby, hzs, hpos⟩ := infoOk_spec hi
  have s1 : w.shape? a.block = some (ea, ca.size) := by simp [World.shape?, ha]
  have s2 : w.shape? b.block = some (eb, cb.size) := by simp [World.shape?, hb']
  exact ⟨.bool false, w, Lib.run_overlaps_apart w t ty_bool e ht i.size (fun w => run_size hi') a b n c m d hne ea eb ca.size cb.size s1 s2 hcb (by simp [World.frozen?, ha]) (by simp [World.frozen?, ha]), Same.refl _, [_], rfl, false, .bool false, q⟩
theorem apart_str : ApartF fn_slices_overlaps_string_ := apart_of (fn := Go.Proofs.Tryz.f180) (t := ty_sl_string) (by kernel_rfl) (by kernel_rfl) (by kernel_rfl) (by kernel_rfl) (by kernel_rfl) und_strs info_s
theorem apart_ref : ApartF fn_slices_overlaps_api_Ref_ := apart_of (fn := Go.Proofs.Tryz.f182) (t := ty_sl_api_Ref) (by kernel_rfl) (by kernel_rfl) (by kernel_rfl) (by kernel_rfl) (by kernel_rfl) und_refs info_ref
theorem apart_int : ApartF 142 := apart_of (fn := Go.Proofs.Tryz.f142) (t := ty_sl_int) (by kernel_rfl) (by kernel_rfl) (by kernel_rfl) (by kernel_rfl) (by kernel_rfl) und_ints info_i
theorem und_int : PG.underlying ty_int = some (.int .i64) := by kernel_rfl
theorem mul3 {a b c : Nat} (h : a = b) : a * c = b * c := by rw [h]
section
variable {h : Mem}
theorem ins_go {t e : TypeId} {z bytes : Nat} {fo fr : FuncId} {B : Nat} {s : Sl} {xs ns : List Value} {i kb : Nat} {ek : TypeId} {Q : Sl → Mem → Prop} (ht : PG.underlying t = some (.slice e)) (hi : infoOk PG e z bytes = true) (hb0 : 0 < bytes) (hz : 0 < z) (ap : ApartF fo)
    (hB : B ≤ h.size) (o : Owns h B e z s xs) (hil : i ≤ s.len) (hs : (s.len + 1) * bytes ≤ 140737488355328) (hr : h[kb]? = some (.cells ns.toArray ek (0, 0))) (hnl : ns.length = z) (h1 : ∀ u ∈ ns, u.oneCell' = true) (hx1 : ∀ u ∈ xs, u.oneCell' = true) (hkb : ∀ a, s.a = some a → a.block ≠ kb)
    (q : ∀ s' h', s'.len = s.len + 1 → Owns h' B e z s' (xs.take (i * z) ++ ns ++ xs.drop (i * z)) → Grown s h h' → (∀ b, s'.a = some b → s.a = some b ∨ h.size ≤ b.block) → Q s' h') : InsWp t z fo fr s (i : Int) ⟨some ⟨kb, 0, none⟩, 1, 1⟩ h Q := by
  have hcv : Cells h ⟨kb, 0, none⟩ ns := Cells.whole hr
  have hxl := o.1
  have hm : s.len + 1 ≤ 140737488355328 := Nat.le_trans (Nat.le_mul_of_pos_right _ hb0) hs
  refine Cut.lo hil (Br.f rfl (Br.mk (fun h1' => ?_) fun h1' => ?_))
  · have hil : i = s.len := by simp only [beq_iff_eq] at h1'; omega
    refine append_at (v := ⟨some ⟨kb, 0, none⟩, 1, 1⟩) ht hi o (by rw [hnl, Nat.one_mul]) (fun _ ha => by cases ha; exact hcv) (fun hn => by cases hn) h1 hs hb0 hB fun s' h' l' o' g' pl => q s' h' l' ?_ g' pl
    rw [hil, ← hxl, List.take_length, List.drop_length, List.append_nil]; exact o'
  · have hil' : i < s.len := by simp only [beq_eq_false_iff_ne, ne_eq] at h1'; omega
    have hle := Owns.cap1 o
    obtain ⟨a, ha⟩ := o.some (by omega)
    obtain ⟨g, rfl⟩ := o.addr ha
    have hgk : g ≠ kb := hkb _ ha
    have hiz : i * z ≤ s.len * z := Nat.mul_le_mul_right _ hil
    have hsub : (s.len - i) * z = s.len * z - i * z := Nat.sub_mul ..
    have hsub1 : (s.len + 1 - i) * z = s.len * z + z - i * z := by rw [Nat.sub_mul, Nat.succ_mul]
    have hadd1 : (s.len + 1) * z = s.len * z + z := Nat.succ_mul ..
    have hi1 : (i + 1) * z = i * z + z := Nat.succ_mul ..
    have ew : IntKind.i64.wrap ((s.len : Int) + (((⟨some ⟨kb, 0, none⟩, 1, 1⟩ : Sl).len : Nat) : Int)) = ((s.len + 1 : Nat) : Int) := by
      show IntKind.i64.wrap ((s.len : Int) + ((1 : Nat) : Int)) = _
      rw [i64_eq (by omega) (by omega)]; omega
    have ew1 : IntKind.i64.wrap ((i : Int) + (((⟨some ⟨kb, 0, none⟩, 1, 1⟩ : Sl).len : Nat) : Int)) = ((i + 1 : Nat) : Int) := by
      show IntKind.i64.wrap ((i : Int) + ((1 : Nat) : Int)) = _
      rw [i64_eq (by omega) (by omega)]; omega
    have ew2 : IntKind.i64.wrap (((s.len + 1 : Nat) : Int) - (i : Int)) = ((s.len + 1 - i : Nat) : Int) := by rw [i64_eq (by omega) (by omega)]; omega
    simp only [ew, ew1, ew2]
    have hdrop : ∀ (H : Mem), H[g]? = h[g]? → Cells H ⟨g, i * z, none⟩ (xs.drop (i * z)) := by
      intro H hH j u hu
      have := o.cells ha (i * z + j) u (by rw [List.getElem?_drop] at hu; exact hu)
      rw [add_off, Nat.zero_add] at this
      rw [add_off]
      unfold cellAt at *
      rw [show (⟨g, i * z + j, none⟩ : Addr).block = g from rfl] at *
      rw [hH]; exact this
    have hdl : (xs.drop (i * z)).length = (s.len - i) * z := by rw [List.length_drop, hxl, hsub]
    have htl : (xs.take (i * z)).length = i * z := by rw [List.length_take, hxl]; omega
    have hd1 : ∀ u ∈ xs.drop (i * z), u.oneCell' = true := fun u hu => hx1 u (List.mem_of_mem_drop hu)
    refine Br.mk (fun h2 => ?_) fun h2 => ?_
    · simp only [decide_eq_true_eq] at h2
      refine Cut.hi (by omega) ?_
      rw [cutSl_zero]
      have hown := o.prefix (n := i) (by omega)
      refine append_zeros (s := ⟨s.a, i, s.cap⟩) (bytes := bytes) ht und_int hi hown (m := s.len + 1 - i) (by show s.cap < i + _; omega) (by show (i + _) * bytes ≤ _; rw [show i + (s.len + 1 - i) = s.len + 1 by omega]; exact hs) hb0 hB fun s5 h6 zs hz' hl5 ha5 o5 x6 => ?_
      have hl5 : s5.len = s.len + 1 := by rw [hl5]; show i + _ = _; omega
      have hle5 := Owns.cap1 o5
      obtain ⟨a5, n5, c5⟩ := s5
      simp only at hl5 ha5 hle5 ⊢
      subst hl5 ha5
      rcases o5.2 with ⟨hv', _⟩ | ⟨g', cap, cur, hv', hB5, hg5, hc5, hm5, hcs5, htk5⟩
      · simp only [Value.slice.injEq] at hv'; cases hv'.1
      · simp only [Value.slice.injEq, Option.some.injEq, Addr.mk.injEq] at hv'
        obtain ⟨⟨rfl, _, _⟩, _, rfl⟩ := hv'
        have hg5 : h6[h.size]? = some (.cells cur e (0, 0)) := hg5
        have hc5z : (s.len + 1) * z ≤ c5 * z := Nat.mul_le_mul_right _ hle5
        refine Cut.lo (by omega) ?_
        rw [cutSl_off (by omega)]
        have hk6 : Cells h6 ⟨kb, 0, none⟩ ns := hcv.ext x6
        refine copy_row (src := ⟨some ⟨kb, 0, none⟩, 1, 1⟩) (cs := ns) ht hi hg5 (by show _ = min 1 (s.len + 1 - i) * z; rw [hnl, Nat.min_eq_left (by omega), Nat.one_mul]) (fun a ha => by cases ha; exact hk6) (fun hn => by cases hn) (by rw [hcs5, hnl]; omega) h1 fun h9 u9 r9 => ?_
        refine Cut.lo (by omega) ?_
        rw [cutSl_off (by omega)]
        refine Cut.lo (by omega) ?_
        rw [ha, cutSl_off (by omega)]
        have x9 : Ext h.size h h9 := x6.trans (u9.ext (Nat.le_refl _))
        have hglt : g < h.size := (o.blk ha).2.1
        refine copy_row (src := ⟨some ⟨g, i * z, none⟩, s.len - i, s.cap - i⟩) (cs := xs.drop (i * z)) ht hi r9 (by rw [hdl]; show _ = min (s.len - i) (s.len + 1 - (i + 1)) * z; exact mul3 (by omega)) (fun a ha => by cases ha; exact hdrop h9 (x9.block _ hglt)) (fun hn => by cases hn)
          (by simp only [List.size_toArray, List.length_append, List.length_take, List.length_drop, Array.length_toList, hcs5, hdl, hnl]; omega) hd1 fun h13 u13 r13 => ?_
        have hc0 : cur.toList.take (i * z) = xs.take (i * z) := by
          have h3 : (cur.toList.take ((s.len + 1) * z)).take (i * z) = xs.take (i * z) := by
            rw [htk5]; exact List.take_left' htl
          rw [List.take_take] at h3
          rw [← h3]; congr 1; omega
        have hpre : (cur.toList.take (i * z) ++ ns).length = (i + 1) * z := by rw [hc0, List.length_append, htl, hnl, hi1]
        have h9t : ((cur.toList.take (i * z) ++ ns ++ cur.toList.drop (i * z + ns.length)).toArray).toList.take ((i + 1) * z) = xs.take (i * z) ++ ns := by
          show (cur.toList.take (i * z) ++ ns ++ _).take ((i + 1) * z) = _
          rw [List.take_left' hpre, hc0]
        refine q ⟨some ⟨h.size, 0, none⟩, s.len + 1, c5⟩ h13 rfl ⟨?_, .inr ⟨h.size, c5, _, rfl, hB, r13, hc5, hm5, ?_, ?_⟩⟩ ?_ fun b hb => ?_
        · rw [List.length_append, List.length_append, htl, hdl, hnl]; show _ = (s.len + 1) * z; omega
        · rw [List.size_toArray, h9t, List.length_append, List.length_append, List.length_append, htl, hdl, hnl]
          simp only [List.length_drop, Array.length_toList, List.length_append, List.length_take, hcs5, hnl]
          omega
        · rw [h9t]
          refine List.take_left' ?_
          rw [List.length_append, List.length_append, htl, hdl, hnl]; show _ = (s.len + 1) * z; omega
        · have x13 : Ext h.size h h13 := x9.trans (u13.ext (Nat.le_refl _))
          exact ⟨x13.size, fun k hk _ => x13.block k hk⟩
        · cases hb; exact .inr (Nat.le_refl _)
    · simp only [decide_eq_false_iff_not] at h2
      have hcap : s.len + 1 ≤ s.cap := by omega
      rcases o.2 with ⟨hv', _⟩ | ⟨g', cap, cur, hv', hBg, hg, hc, hm', hcs, htk⟩
      · simp only [Value.slice.injEq] at hv'; rw [ha] at hv'; cases hv'.1
      · simp only [Value.slice.injEq] at hv'
        obtain ⟨hva, _, hvc⟩ := hv'
        rw [ha] at hva
        cases hva
        have hg : h[g]? = some (.cells cur e (0, 0)) := hg
        have hcz : (s.len + 1) * z ≤ s.cap * z := Nat.mul_le_mul_right _ hcap
        refine Cut.hi hcap ?_
        rw [cutSl_zero, ha]
        dsimp only
        refine Cut.lo (by omega) ?_
        rw [cutSl_off (by omega)]
        refine ap (a := ⟨kb, 0, none⟩) (b := ⟨g, (i + 1) * z, none⟩) (fun e => hgk e.symm) hr hg (by rw [hcs, ← hvc]; omega) (Br.t rfl ?_)
        refine Cut.lo (by omega) ?_
        rw [cutSl_off (by omega)]
        refine Cut.lo (by omega) ?_
        rw [cutSl_off (by omega)]
        refine copy_row (src := ⟨some ⟨g, i * z, none⟩, s.len + 1 - i, s.cap - i⟩) (cs := xs.drop (i * z)) ht hi hg (by rw [hdl]; show _ = min (s.len + 1 - i) (s.len + 1 - (i + 1)) * z; exact mul3 (by omega)) (fun a ha => by cases ha; exact hdrop h rfl) (fun hn => by cases hn)
          (by rw [hdl, hcs, ← hvc]; omega) hd1 fun h21 u21 r21 => ?_
        refine Cut.lo (by omega) ?_
        rw [cutSl_off (by omega)]
        have hk21 : Cells h21 ⟨kb, 0, none⟩ ns := Cells.whole ((u21.block _ (fun e => hgk e.symm)).trans hr)
        refine copy_row (src := ⟨some ⟨kb, 0, none⟩, 1, 1⟩) (cs := ns) ht hi r21 (by show _ = min 1 (s.len + 1 - i) * z; rw [hnl, Nat.min_eq_left (by omega), Nat.one_mul]) (fun a ha => by cases ha; exact hk21) (fun hn => by cases hn)
          (by simp only [List.size_toArray, List.length_append, List.length_take, List.length_drop, Array.length_toList, hcs, hdl, hnl, ← hvc]; omega) h1 fun h24 u24 r24 => ?_
        have hc0 : cur.toList.take (i * z) = xs.take (i * z) := by
          have h3 : (cur.toList.take (s.len * z)).take (i * z) = xs.take (i * z) := by rw [htk]
          rw [List.take_take] at h3
          rw [← h3]; congr 1; omega
        have hl2 : (cur.toList.take ((i + 1) * z)).length = (i + 1) * z := by rw [List.length_take, Array.length_toList, hcs, ← hvc]; omega
        have t1 : ((cur.toList.take ((i + 1) * z) ++ xs.drop (i * z) ++ cur.toList.drop ((i + 1) * z + (xs.drop (i * z)).length)).toArray).toList.take (i * z) = xs.take (i * z) := by
          show (cur.toList.take ((i + 1) * z) ++ xs.drop (i * z) ++ _).take (i * z) = _
          rw [List.append_assoc, List.take_append_of_le_length (by rw [hl2]; omega), List.take_take, ← hc0]
          congr 1; omega
        have t2 : ((cur.toList.take ((i + 1) * z) ++ xs.drop (i * z) ++ cur.toList.drop ((i + 1) * z + (xs.drop (i * z)).length)).toArray).toList.drop (i * z + ns.length) = xs.drop (i * z) ++ cur.toList.drop ((i + 1) * z + (xs.drop (i * z)).length) := by
          show (cur.toList.take ((i + 1) * z) ++ xs.drop (i * z) ++ _).drop (i * z + ns.length) = _
          rw [List.append_assoc, List.drop_left' (by rw [hl2, hnl]; omega)]
        rw [t1, t2] at r24
        refine q ⟨some ⟨g, 0, none⟩, s.len + 1, s.cap⟩ h24 rfl ⟨?_, .inr ⟨g, cap, _, by rw [hvc], hBg, r24, by show s.len + 1 ≤ cap; omega, hm', ?_, ?_⟩⟩ ⟨by rw [u24.size, u21.size]; exact Nat.le_refl _, fun k hk hn => ?_⟩ fun b hb => .inl (by rw [ha]; exact hb)
        · rw [List.length_append, List.length_append, htl, hdl, hnl]; show _ = (s.len + 1) * z; omega
        · simp only [List.size_toArray, List.length_append, List.length_drop, Array.length_toList, htl, hcs, hxl, hnl, ← hvc]
          omega
        · show (xs.take (i * z) ++ ns ++ (xs.drop (i * z) ++ _)).take ((s.len + 1) * z) = _
          rw [← List.append_assoc, List.take_left' (by rw [List.length_append, List.length_append, htl, hdl, hnl]; omega)]
        · have hkg : k ≠ g := hn _ ha
          exact (u24.block k hkg).trans (u21.block k hkg)
end
end Go.Dn.W
