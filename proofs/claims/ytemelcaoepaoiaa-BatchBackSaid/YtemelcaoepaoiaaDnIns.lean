/- A pair put into a list of pairs. -/
import Derived.Test.YtemelcaoepaoiaaDnDel
import Derived.Test.YtemelcaoepaoiaaDnZer
import Derived.Lib.Overlaps
namespace Go.Dn.W
open Go Go.Dn Go.Proofs

theorem und_int : PG.underlying ty_int = some (.int .i64) := by kernel_rfl

/-- of two slices of unlike rows none overlaps the other -/
theorem ct_overlaps {h : Mem} {a b : Addr} {n c m d : Nat} {ca cb : Array Value} {ea eb : TypeId} {Q : Bool → Mem → Prop} (hne : a.block ≠ b.block) (ha : h[a.block]? = some (.cells ca ea (0, 0))) (hb : h[b.block]? = some (.cells cb eb (0, 0))) (hcb : cb.size ≠ 0) (q : Q false h) :
    CallF PG fn_slices_overlaps_api_Pair_ [.slice (some a) n c, .slice (some b) m d] (.one (.leaf .bool)) h Q := by
  refine callF_row (fn := Go.Proofs.Try.f124) (e := Extern.SlicesOverlaps.overlaps #[ty_sl_api_Pair, ty_sl_api_Pair] #[ty_bool]) (by kernel_rfl) (by kernel_rfl) (by kernel_rfl) (by kernel_rfl) (by kernel_rfl) ?_
  intro w hw
  subst hw
  obtain ⟨i, z, hi', hz, hsz, hby, hzs, hpos⟩ := infoOk_spec info_pair
  have s1 : w.shape? a.block = some (ea, ca.size) := by simp [World.shape?, ha]
  have s2 : w.shape? b.block = some (eb, cb.size) := by simp [World.shape?, hb]
  exact ⟨.bool false, w, Lib.run_overlaps_apart w ty_sl_api_Pair ty_bool ty_api_Pair und_pairs i.size (fun w => run_size hi') a b n c m d hne ea eb ca.size cb.size s1 s2 hcb (by simp [World.frozen?, ha]) (by simp [World.frozen?, ha]), Same.refl _, [_], rfl, false, .bool false, q⟩

theorem Heads.ins {h : Mem} {B : Nat} {hl : List (ByteArray × Sl)} {l : List Pr} (x : Heads h B hl l) {i : Nat} (hi : i ≤ l.length) {p : Pr} {v : Sl} (hv : OwnB h B ty_uint8 v p.val) : Heads h B (hl.take i ++ (p.key, v) :: hl.drop i) (l.take i ++ p :: l.drop i) := by
  have hli : i ≤ hl.length := by rw [x.len]; exact hi
  refine ⟨by simp [x.len], fun k q r hq hr => ?_⟩
  rcases Nat.lt_or_ge k i with hk | hk
  · rw [List.getElem?_append_left (by rw [List.length_take]; omega), List.getElem?_take, if_pos hk] at hq hr
    exact x.is k q r hq hr
  · rw [List.getElem?_append_right (by rw [List.length_take]; omega), List.length_take] at hq hr
    rw [Nat.min_eq_left hli] at hq
    rw [Nat.min_eq_left hi] at hr
    cases hd : k - i with
    | zero =>
      rw [hd] at hq hr
      simp only [List.getElem?_cons_zero, Option.some.injEq] at hq hr
      subst hq hr
      exact ⟨rfl, hv⟩
    | succ d =>
      rw [hd] at hq hr
      simp only [List.getElem?_cons_succ, List.getElem?_drop] at hq hr
      exact x.is _ q r hq hr

theorem pair_hcells (hl : List (ByteArray × Sl)) (i : Nat) (k : ByteArray) (v : Sl) : hcells (hl.take i ++ (k, v) :: hl.drop i) = hcells (hl.take i) ++ (pcells k v ++ hcells (hl.drop i)) := by
  rw [hcells_append]; rfl

theorem cutSl_row {g n m c : Nat} (hc : c ≠ n) : cutSl 2 (some ⟨g, 0, none⟩) n m c = ⟨some ⟨g, n * 2, none⟩, m - n, c - n⟩ := by
  unfold cutSl
  rw [if_neg hc, Option.map_some, add_off, Nat.zero_add]

section
variable {h : Mem}
theorem ct_Insert {B : Nat} {s : Sl} {l : List Pr} {i : Nat} {p : Pr} {v : Sl} {kb : Nat} {Q : Sl → Mem → Prop} (hB : B ≤ h.size) (x : OwnP h B s l) (hi : i ≤ l.length) (hs : (l.length + 1) * 40 ≤ 140737488355328)
    (hr : h[kb]? = some (.cells #[.string p.key, sval v] ty_api_Pair (0, 0))) (hkb : ∀ a, s.a = some a → a.block ≠ kb) (hv : OwnB h B ty_uint8 v p.val)
    (q : ∀ s' h', OwnP h' B s' (l.take i ++ p :: l.drop i) → Ext B h h' → Q s' h') :
    CallF PG fn_slices_Insert_api_Pair_api_Pair_ [sval s, .int .i64 (i : Int), .slice (some ⟨kb, 0, none⟩) 1 1] (.one (.leaf .sl)) h Q := by
  have hlen := x.len
  have hcv : Cells h ⟨kb, 0, none⟩ (pcells p.key v) := Cells.whole hr
  refine call_slices_Insert_api_Pair_api_Pair_ (v := ⟨some ⟨kb, 0, none⟩, 1, 1⟩) (Cut.lo (by omega) (Br.f rfl (Br.mk (fun h1 => ?_) fun h1 => ?_)))
  · have hil : i = l.length := by simp only [beq_iff_eq] at h1; omega
    refine OwnP.push hB x hcv hv (by omega) fun s' h' o e _ => q s' h' ?_ e
    rw [hil, List.take_length, List.drop_length]; exact o
  · have hil : i < l.length := by simp only [beq_eq_false_iff_ne, ne_eq] at h1; omega
    obtain ⟨hl, o, hh⟩ := x
    have hle := Owns.le o
    obtain ⟨a, ha⟩ := o.some (by omega)
    obtain ⟨g, rfl⟩ := o.addr ha
    have hgk : g ≠ kb := hkb _ ha
    have hnl : hl.length = l.length := hh.len
    have ew : IntKind.i64.wrap ((s.len : Int) + (((⟨some ⟨kb, 0, none⟩, 1, 1⟩ : Sl).len : Nat) : Int)) = ((s.len + 1 : Nat) : Int) := by
      show IntKind.i64.wrap ((s.len : Int) + ((1 : Nat) : Int)) = _
      rw [i64_eq (by omega) (by omega)]; omega
    have ew1 : IntKind.i64.wrap ((i : Int) + (((⟨some ⟨kb, 0, none⟩, 1, 1⟩ : Sl).len : Nat) : Int)) = ((i + 1 : Nat) : Int) := by
      show IntKind.i64.wrap ((i : Int) + ((1 : Nat) : Int)) = _
      rw [i64_eq (by omega) (by omega)]; omega
    have ew2 : IntKind.i64.wrap (((s.len + 1 : Nat) : Int) - (i : Int)) = ((s.len + 1 - i : Nat) : Int) := by rw [i64_eq (by omega) (by omega)]; omega
    simp only [ew, ew1, ew2]
    have hdrop : ∀ (H : Mem), Ext h.size h H → Cells H ⟨g, i * 2, none⟩ (hcells (hl.drop i)) := by
      intro H xH j u hu
      have := o.cells ha (i * 2 + j) u (by rw [← hcells_drop, List.getElem?_drop] at hu; exact hu)
      rw [add_off, Nat.zero_add] at this
      rw [add_off]
      exact xH.cellAt (cellAt_lt this) this
    have hdl : (hcells (hl.drop i)).length = (s.len - i) * 2 := by rw [hcells_length, List.length_drop, hnl, hlen]
    refine Br.mk (fun h2 => ?_) fun h2 => ?_
    · simp only [decide_eq_true_eq] at h2
      refine Cut.hi (by omega) ?_
      rw [cutSl_zero]
      have hown := o.prefix (n := i) (by omega)
      rw [hcells_take] at hown
      refine append_zeros (s := ⟨s.a, i, s.cap⟩) (bytes := 40) und_pairs und_int info_pair hown (m := s.len + 1 - i) (by show s.cap < i + _; omega) (by show (i + _) * 40 ≤ _; omega) (by decide) hB fun s5 h6 zs hz hl5 ha5 o5 x6 => ?_
      have hl5 : s5.len = s.len + 1 := by rw [hl5]; show i + _ = _; omega
      have hle5 := Owns.le o5
      obtain ⟨a5, n5, c5⟩ := s5
      simp only at hl5 ha5 hle5 ⊢
      subst hl5 ha5
      rcases o5.2 with ⟨hv', _⟩ | ⟨g', cap, cur, hv', hB5, hg5, hc5, hm5, hcs5, htk5⟩
      · simp only [Value.slice.injEq] at hv'; cases hv'.1
      · simp only [Value.slice.injEq, Option.some.injEq, Addr.mk.injEq] at hv'
        obtain ⟨⟨rfl, _, _⟩, _, rfl⟩ := hv'
        have hg5 : h6[h.size]? = some (.cells cur ty_api_Pair (0, 0)) := hg5
        refine Cut.lo (by omega) ?_
        rw [cutSl_row (by omega)]
        have hk6 : Cells h6 ⟨kb, 0, none⟩ (pcells p.key v) := hcv.ext x6
        refine copy_row (src := ⟨some ⟨kb, 0, none⟩, 1, 1⟩) (cs := pcells p.key v) und_pairs info_pair hg5 (by show 2 = min 1 (s.len + 1 - i) * 2; omega) (fun a ha => by cases ha; exact hk6) (fun hn => by cases hn) (by rw [hcs5]; show i * 2 + 2 ≤ c5 * 2; omega) (one_pcells _ _) fun h9 u9 r9 => ?_
        refine Cut.lo (by omega) ?_
        rw [cutSl_row (by omega)]
        refine Cut.lo (by omega) ?_
        rw [ha, cutSl_row (by omega)]
        have x9 : Ext h.size h h9 := x6.trans (u9.ext (Nat.le_refl _))
        refine copy_row (src := ⟨some ⟨g, i * 2, none⟩, s.len - i, s.cap - i⟩) (cs := hcells (hl.drop i)) und_pairs info_pair r9 (by rw [hdl]; show _ = min (s.len - i) (s.len + 1 - (i + 1)) * 2; congr 1; omega) (fun a ha => by cases ha; exact hdrop h9 x9) (fun hn => by cases hn)
          (by simp only [List.size_toArray, List.length_append, List.length_take, List.length_drop, Array.length_toList, hcs5, hdl]; show _ ≤ min (i * 2) (c5 * 2) + 2 + (c5 * 2 - (i * 2 + 2)); omega) (one_hcells _) fun h13 u13 r13 => ?_
        have hti : (hcells (hl.take i)).length = i * 2 := by rw [hcells_length, List.length_take, hnl]; congr 1; omega
        have hc0 : cur.toList.take (i * 2) = hcells (hl.take i) := by
          have h3 : (cur.toList.take ((s.len + 1) * 2)).take (i * 2) = hcells (hl.take i) := by
            rw [htk5]; exact List.take_left' hti
          rw [List.take_take] at h3
          rw [← h3]; congr 1; omega
        have hpre : (cur.toList.take (i * 2) ++ pcells p.key v).length = (i + 1) * 2 := by rw [hc0, List.length_append, hti]; show i * 2 + 2 = _; omega
        have h9t : ((cur.toList.take (i * 2) ++ pcells p.key v ++ cur.toList.drop (i * 2 + (pcells p.key v).length)).toArray).toList.take ((i + 1) * 2) = hcells (hl.take i) ++ pcells p.key v := by
          show (cur.toList.take (i * 2) ++ pcells p.key v ++ _).take ((i + 1) * 2) = _
          rw [List.take_left' hpre, hc0]
        refine q ⟨some ⟨h.size, 0, none⟩, s.len + 1, c5⟩ h13 ⟨hl.take i ++ (p.key, v) :: hl.drop i, ⟨?_, .inr ⟨h.size, c5, _, rfl, hB, r13, hc5, hm5, ?_, ?_⟩⟩, ?_⟩ ?_
        · rw [pair_hcells, List.length_append, List.length_append, hti, hdl]; show i * 2 + (2 + (s.len - i) * 2) = (s.len + 1) * 2; omega
        · rw [List.size_toArray, h9t, List.length_append, List.length_append, List.length_append, hti, hdl]
          simp only [List.length_drop, Array.length_toList, List.length_append, List.length_take, hcs5]
          show i * 2 + 2 + (s.len - i) * 2 + (min (i * 2) (c5 * 2) + 2 + (c5 * 2 - (i * 2 + 2)) - ((i + 1) * 2 + (s.len - i) * 2)) = c5 * 2
          omega
        · rw [h9t, pair_hcells, ← List.append_assoc]
          refine List.take_left' ?_
          rw [List.length_append, List.length_append, hti, hdl]; show i * 2 + 2 + (s.len - i) * 2 = (s.len + 1) * 2; omega
        · have x13 : Ext h.size h h13 := x9.trans (u13.ext (Nat.le_refl _))
          exact (hh.ext x13).ins (by omega) (Owns.ext hv x13)
        · exact (x9.trans (u13.ext (Nat.le_refl _))).less hB
    · simp only [decide_eq_false_iff_not] at h2
      have hcap : s.len + 1 ≤ s.cap := by omega
      rcases o.2 with ⟨hv', _⟩ | ⟨g', cap, cur, hv', hBg, hg, hc, hm, hcs, htk⟩
      · simp only [Value.slice.injEq] at hv'; rw [ha] at hv'; cases hv'.1
      · simp only [Value.slice.injEq] at hv'
        obtain ⟨hva, _, hvc⟩ := hv'
        rw [ha] at hva
        cases hva
        have hg : h[g]? = some (.cells cur ty_api_Pair (0, 0)) := hg
        refine Cut.hi hcap ?_
        rw [cutSl_zero, ha]
        dsimp only
        refine Cut.lo (by omega) ?_
        rw [cutSl_row (by omega)]
        refine ct_overlaps (a := ⟨kb, 0, none⟩) (b := ⟨g, (i + 1) * 2, none⟩) (fun e => hgk e.symm) hr hg (by rw [hcs]; omega) (Br.t rfl ?_)
        refine Cut.lo (by omega) ?_
        rw [cutSl_row (by omega)]
        refine Cut.lo (by omega) ?_
        rw [cutSl_row (by omega)]
        refine copy_row (src := ⟨some ⟨g, i * 2, none⟩, s.len + 1 - i, s.cap - i⟩) (cs := hcells (hl.drop i)) und_pairs info_pair hg (by rw [hdl]; show _ = min (s.len + 1 - i) (s.len + 1 - (i + 1)) * 2; congr 1; omega) (fun a ha => by cases ha; exact hdrop h (Ext.refl _ _)) (fun hn => by cases hn)
          (by rw [hdl, hcs, ← hvc]; omega) (one_hcells _) fun h21 u21 r21 => ?_
        refine Cut.lo (by omega) ?_
        rw [cutSl_row (by omega)]
        have hk21 : Cells h21 ⟨kb, 0, none⟩ (pcells p.key v) := Cells.whole ((u21.block _ (fun e => hgk e.symm)).trans hr)
        refine copy_row (src := ⟨some ⟨kb, 0, none⟩, 1, 1⟩) (cs := pcells p.key v) und_pairs info_pair r21 (by show 2 = min 1 (s.len + 1 - i) * 2; omega) (fun a ha => by cases ha; exact hk21) (fun hn => by cases hn)
          (by simp only [List.size_toArray, List.length_append, List.length_take, List.length_drop, Array.length_toList, hcs, hdl, ← hvc]; show i * 2 + 2 ≤ min ((i + 1) * 2) (s.cap * 2) + (s.len - i) * 2 + (s.cap * 2 - ((i + 1) * 2 + (s.len - i) * 2)); omega) (one_pcells _ _) fun h24 u24 r24 => ?_
        have hti : (hcells (hl.take i)).length = i * 2 := by rw [hcells_length, List.length_take, hnl]; congr 1; omega
        have hc0 : cur.toList.take (i * 2) = hcells (hl.take i) := by
          have h3 : (cur.toList.take (s.len * 2)).take (i * 2) = hcells (hl.take i) := by rw [htk]; exact hcells_take hl i
          rw [List.take_take] at h3
          rw [← h3]; congr 1; omega
        have hl2 : (cur.toList.take ((i + 1) * 2)).length = (i + 1) * 2 := by rw [List.length_take, Array.length_toList, hcs, ← hvc]; omega
        -- what the row is, in the end
        have t1 : ((cur.toList.take ((i + 1) * 2) ++ hcells (hl.drop i) ++ cur.toList.drop ((i + 1) * 2 + (hcells (hl.drop i)).length)).toArray).toList.take (i * 2) = hcells (hl.take i) := by
          show (cur.toList.take ((i + 1) * 2) ++ hcells (hl.drop i) ++ _).take (i * 2) = _
          rw [List.append_assoc, List.take_append_of_le_length (by rw [hl2]; omega), List.take_take, ← hc0]
          congr 1; omega
        have t2 : ((cur.toList.take ((i + 1) * 2) ++ hcells (hl.drop i) ++ cur.toList.drop ((i + 1) * 2 + (hcells (hl.drop i)).length)).toArray).toList.drop (i * 2 + (pcells p.key v).length) = hcells (hl.drop i) ++ cur.toList.drop ((i + 1) * 2 + (hcells (hl.drop i)).length) := by
          show (cur.toList.take ((i + 1) * 2) ++ hcells (hl.drop i) ++ _).drop (i * 2 + 2) = _
          rw [List.append_assoc, List.drop_left' (by rw [hl2]; omega)]
        rw [t1, t2] at r24
        have x24 : Ext B h h24 := (u21.ext hBg).trans (u24.ext hBg)
        refine q ⟨some ⟨g, 0, none⟩, s.len + 1, s.cap⟩ h24 ⟨hl.take i ++ (p.key, v) :: hl.drop i, ⟨?_, .inr ⟨g, cap, _, by rw [hvc], hBg, r24, by show s.len + 1 ≤ cap; omega, hm, ?_, ?_⟩⟩, ?_⟩ x24
        · rw [pair_hcells, List.length_append, List.length_append, hti, hdl]; show i * 2 + (2 + (s.len - i) * 2) = (s.len + 1) * 2; omega
        · simp only [List.size_toArray, List.length_append, List.length_drop, Array.length_toList, hti, hdl, hcs, ← hvc]
          show i * 2 + 2 + ((s.len - i) * 2 + (s.cap * 2 - ((i + 1) * 2 + (s.len - i) * 2))) = s.cap * 2
          omega
        · rw [pair_hcells]
          show (hcells (hl.take i) ++ pcells p.key v ++ (hcells (hl.drop i) ++ _)).take ((s.len + 1) * 2) = _
          rw [← List.append_assoc, List.take_left' (by rw [List.length_append, List.length_append, hti, hdl]; show i * 2 + 2 + (s.len - i) * 2 = (s.len + 1) * 2; omega), List.append_assoc]
        · refine ((hh.upd hg u21).upd r21 u24).ins (by omega) (Owns.kept hv fun a' ha' => ?_)
          have hne : a'.block ≠ g := fun e => by
            obtain ⟨_, _, c', hc'⟩ := Owns.blk hv ha'
            rw [e, hg] at hc'
            cases hc'
          rw [u24.block _ hne, u21.block _ hne]
end
end Go.Dn.W
