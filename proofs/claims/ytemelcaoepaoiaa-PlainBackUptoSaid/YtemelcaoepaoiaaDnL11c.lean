/- Laws of layer 11 where no list is longer than the second form's bound: scans, counts. -/
import Derived.Test.YtemelcaoepaoiaaDnL11b
set_option linter.unusedVariables false
namespace Go.Dn.W
open Go Go.Dn Go.Proofs

/-- so many pairs from the front -/
theorem PairsAt.take {h : Mem} {s : Sl} {l : List Pr} (a : PairsAt h s l) {n : Nat} (hn : n ≤ l.length) : PairsAt h ⟨s.a, n, s.cap⟩ (l.take n) := by
  refine ⟨by rw [List.length_take]; show n = _; omega, fun i p hp => ?_, a.nil⟩
  rw [List.getElem?_take] at hp
  split at hp
  · exact a.at_ i p hp
  · cases hp
theorem Heads.append {h : Mem} {B : Nat} {hl hm : List (ByteArray × Sl)} {l m : List Pr} (x : Heads h B hl l) (y : Heads h B hm m) : Heads h B (hl ++ hm) (l ++ m) := by
  refine ⟨by simp [x.len, y.len], fun i q p hq hp => ?_⟩
  rcases Nat.lt_or_ge i hl.length with hlt | hge
  · rw [List.getElem?_append_left hlt] at hq
    rw [List.getElem?_append_left (by rw [← x.len]; exact hlt)] at hp
    exact x.is i q p hq hp
  · rw [List.getElem?_append_right hge] at hq
    rw [List.getElem?_append_right (by rw [← x.len]; exact hge), ← x.len] at hp
    exact y.is _ q p hq hp
theorem Heads.base {h : Mem} {B B0 : Nat} {hl : List (ByteArray × Sl)} {l : List Pr} (x : Heads h B hl l) (hB : B0 ≤ B) : Heads h B0 hl l := ⟨x.len, fun i q p hq hp => let ⟨a, b⟩ := x.is i q p hq hp; ⟨a, Owns.base b hB⟩⟩
theorem OwnP.base {h : Mem} {B B0 : Nat} {s : Sl} {l : List Pr} (x : OwnP h B s l) (hB : B0 ≤ B) : OwnP h B0 s l := let ⟨hl, o, hh⟩ := x; ⟨hl, o.base hB, hh.base hB⟩
/-- a list of pairs is appended to another -/
theorem OwnP.append {h : Mem} {B : Nat} {s t : Sl} {l m : List Pr} {K : Sl → Mem → Prop} (hB : B ≤ h.size) (x : OwnP h B s l) (y : OwnP h B t m) (hs : (l.length + m.length) * 40 ≤ 140737488355328)
    (hk : ∀ s' h', OwnP h' B s' (l ++ m) → Ext B h h' → K s' h') : PrimT PG (Builtin.append_ #[ty_sl_api_Pair, ty_sl_api_Pair] ty_sl_api_Pair #[sval s, sval t]) (.one (.leaf .sl)) h K := by
  have lx := x.len
  have ly := y.len
  obtain ⟨hl, o, hh⟩ := x
  obtain ⟨hm, o2, hh2⟩ := y
  refine append_go und_pairs info_pair o (news := hcells hm) (by rw [hcells_length, hh2.len, ly]) (fun a ha => o2.cells ha) (fun hn => Owns.nil0 o2 hn) (one_hcells _) (by rw [lx, ly]; exact hs) (by decide) hB fun s' h' _ ho g => ?_
  refine hk s' h' ⟨hl ++ hm, ?_, (hh.grown o g).append (hh2.grown o g)⟩ (o.grownExt hB g)
  rw [hcells_append]; exact ho

theorem scan_cap {l : List Pr} (r : Right l) (hl : l.length ≤ 1048576) (lo hi : ByteArray) : pScan l lo hi 2147483647 = l.filter (within lo hi) := by
  unfold pScan scanOf
  rw [if_pos r]
  have := List.length_filter_le (within lo hi) l
  exact List.take_of_length_le (by show _ ≤ 2147483647; omega)
theorem scan_empty {l : List Pr} (r : Right l) (hl : l.length ≤ 1048576) : pScan l emp emp 2147483647 = l := by
  rw [scan_cap r hl]
  refine List.filter_eq_self.2 fun p _ => ?_
  unfold within pWithin
  rw [sLt_empty, sEq_self]; rfl
theorem scan_parts {l : List Pr} (r : Right l) (hl : l.length ≤ 1048576) {lo at' hi : ByteArray} (h0 : at' ≠ emp) (h1 : sLt at' lo = false) (h2 : hi = emp ∨ sLt hi at' = false) :
    pScan l lo at' 2147483647 ++ pScan l at' hi 2147483647 = pScan l lo hi 2147483647 := by
  rw [scan_cap r hl, scan_cap r hl, scan_cap r hl]
  have hp := (Right.iff.1 r).2
  clear hl r
  have ea : sEq at' emp = false := sEq_false.2 h0
  induction l with
  | nil => rfl
  | cons p l ih =>
    obtain ⟨p1, p2⟩ := List.pairwise_cons.1 hp
    have ih := ih p2
    rw [List.filter_cons, List.filter_cons, List.filter_cons]
    cases hb : sLt p.key at' with
    | true =>
      -- below the middle: in the first part or in none
      have e2 : within at' hi p = false := by unfold within pWithin; rw [hb]; rfl
      have hh : (sEq hi emp || sLt p.key hi) = true := by
        rcases h2 with h2 | h2
        · rw [h2, sEq_self]; rfl
        · rw [sLt_of_lt_of_le hb h2]; simp
      have e1 : within lo at' p = within lo hi p := by unfold within pWithin; rw [ea, hb, hh]; simp
      rw [e1, e2]
      split
      · rw [← ih]; rfl
      · exact ih
    | false =>
      -- from the middle on: then so are all behind it
      have e1 : within lo at' p = false := by unfold within pWithin; rw [ea, hb]; simp
      have lo' : sLt p.key lo = false := by
        cases hc : sLt p.key lo with
        | false => rfl
        | true => rw [sLt_of_lt_of_le hc h1] at hb; cases hb
      have e2 : within at' hi p = within lo hi p := by unfold within pWithin; rw [hb, lo']
      have none' : l.filter (within lo at') = [] := List.filter_eq_nil_iff.2 fun q hq => by
        have := sLt_of_le_of_lt hb (p1 q hq)
        unfold within pWithin
        rw [sLt_asymm this, ea]; simp
      rw [none', List.nil_append] at ih
      rw [e1, none', e2, ih]
      simp

section
variable {h : Mem}

theorem law_PlainScans {l : Sl} {lo at' hi : ByteArray} {most : Int} {L : List Pr} {Q : Bool → Mem → Prop} (a : PairsIn h l L ∧ l.len ≤ 1048576) (hlo : lo.size ≤ 140737488351232) (hat : at'.size ≤ 140737488351232) (hhi : hi.size ≤ 140737488351232) (hm : -9223372036854775808 ≤ most ∧ most ≤ 9223372036854775807)
    (q : ∀ h', Ext h.size h h' → Q true h') : wp_dunnagelaw11_PlainScans l lo at' hi most h Q := by
  obtain ⟨a, hL⟩ := a
  rw [a.at_.len] at hL
  have slen : ∀ x y m, (pScan L x y m).length ≤ 1048576 := fun x y m => by
    unfold pScan
    split
    · have := scan_le L x y m; omega
    · simp
  refine ct_plain_Scan a.at_ (by omega) fun s1 h2 x2 o1 => ct_awake11 fun h4 x4 => ?_
  have x04 := x2.after x4
  refine ⟨fun c h' => c = !decide (Right L) ∧ Ext h4.size h4 h', ?_, Br.f rfl (ct_plain_Check (a.at_.ext x04) (by omega) (fun r h37 x37 => ⟨by simp [r], x37⟩) fun r h37 x37 => ⟨by simp [r], x37⟩)⟩
  rintro _ c h8 ⟨rfl, x8⟩
  have x48 := x4.after x8
  have x08 := x2.after x48
  have l1 := o1.len
  refine Br.mk (fun e => ct_awake11 fun h10 x10 => ?_) fun e => ?_
  · have nr : ¬ Right L := by simpa using e
    refine ⟨fun c h' => c = true ∧ h' = h10, ?_, Br.t rfl ⟨?_, rfl⟩⟩
    · rintro _ c h14 ⟨rfl, rfl⟩
      exact q _ (x08.after x10)
    · have : pScan L lo hi 2147483647 = [] := if_neg nr
      rw [l1, this]; rfl
  · have r : Right L := by simpa using e
    refine ct_plain_Scan (a.at_.ext x08) (by omega) fun s15 h16 x16 o15 => ?_
    have s1l := slen lo hi 2147483647
    have en : (if (s1.len : Int) < (if most > 0 then most else 0) then (s1.len : Int) else (if most > 0 then most else 0)) = ((min s1.len most.toNat : Nat) : Int) := by
      by_cases hmz : most > 0
      · rw [if_pos hmz]; split <;> omega
      · rw [if_neg hmz]; split <;> omega
    rw [en]
    have hcap : s1.len ≤ s1.cap := by obtain ⟨_, oo, _⟩ := o1; exact Owns.le oo
    refine Cut.hi (by omega) ?_
    rw [cutSl_zero]
    have x216 := x48.after x16
    have p1 := ((o1.ext x216).pairs).take (n := min s1.len most.toNat) (by rw [← l1]; omega)
    have ep : pScan L lo hi most = (pScan L lo hi 2147483647).take (min s1.len most.toNat) := by
      rw [l1, scan_cap r hL]
      unfold pScan scanOf
      rw [if_pos r]
      rw [List.take_eq_take_iff]
      omega
    refine ct_Pairs o15.pairs p1 (by have := slen lo hi most; omega) fun h19 x19 => ?_
    rw [ep, decide_eq_true rfl]
    have x219 := x216.after x19
    have x019 := x2.after x219
    refine Br.f rfl (Br.mk (fun _ => q _ x019) fun e1 => Br.mk (fun _ => q _ x019) fun e2 => ?_)
    have h0 : at' ≠ emp := sEq_false.1 e1
    have go : (hi = emp ∨ sLt hi at' = false) → CallF PG fn_plain_Scan [sval l, .string lo, .string at', .int .i64 2147483647] (.one (.leaf .sl)) h19 fun (s20 : Sl) (h21 : Mem) =>
        CallF PG fn_plain_Scan [sval l, .string at', .string hi, .int .i64 2147483647] (.one (.leaf .sl)) h21 fun (s22 : Sl) (h23 : Mem) =>
          PrimT PG (Builtin.append_ #[ty_sl_api_Pair, ty_sl_api_Pair] ty_sl_api_Pair #[sval s20, sval s22]) (.one (.leaf .sl)) h23 fun (s24 : Sl) (h25 : Mem) =>
            CallF PG fn_dunnagehelp_Pairs [sval s24, sval s1] (.one (.leaf .bool)) h25 fun (b26 : Bool) (h27 : Mem) => Q b26 h27 := by
      intro h2
      refine ct_plain_Scan (a.at_.ext x019) (by omega) fun s20 h21 x21 o20 => ct_plain_Scan (a.at_.ext (x019.after x21)) (by omega) fun s22 h23 x23 o22 => ?_
      have b1 := slen lo at' 2147483647
      have b2 := slen at' hi 2147483647
      refine OwnP.append (B := h19.size) (x21.after x23).size (o20.ext x23) (o22.base x21.size) (by omega) fun s24 h25 o24 x25 => ?_
      have x1925 := (x21.after x23).trans x25
      have eq := scan_parts r hL h0 e2 h2
      rw [eq] at o24
      refine ct_Pairs o24.pairs (o1.ext (x219.after x1925)).pairs (by omega) fun h27 x27 => ?_
      rw [decide_eq_true rfl]
      exact q _ ((x019.after x1925).after x27)
    refine Br.mk (fun e3 => ?_) fun e3 => ?_
    · rw [sLt_or]
      refine Br.mk (fun e4 => q _ x019) fun e4 => go (.inr ?_)
      simpa using e4
    · exact go (.inl (by simpa [sEq_iff] using e3))

theorem law_PlainCounts {l : Sl} {L : List Pr} {Q : Bool → Mem → Prop} (a : PairsIn h l L ∧ l.len ≤ 1048576) (q : ∀ h', Ext h.size h h' → Q true h') : wp_dunnagelaw11_PlainCounts l h Q := by
  obtain ⟨a, hL⟩ := a
  rw [a.at_.len] at hL
  refine ct_plain_Scan a.at_ (by omega) fun s1 h2 x2 o1 => ct_awake11 fun h4 x4 => ?_
  have x04 := x2.after x4
  refine ⟨fun c h' => c = !decide (Right L) ∧ Ext h4.size h4 h', ?_, Br.f rfl (ct_plain_Check (a.at_.ext x04) (by omega) (fun r h37 x37 => ⟨by simp [r], x37⟩) fun r h37 x37 => ⟨by simp [r], x37⟩)⟩
  rintro _ c h8 ⟨rfl, x8⟩
  have x48 := x4.after x8
  have x08 := x2.after x48
  have l1 := o1.len
  refine Br.mk (fun e => ct_awake11 fun h10 x10 => ?_) fun e => ?_
  · have nr : ¬ Right L := by simpa using e
    refine ⟨fun c h' => c = true ∧ h' = h10, ?_, Br.t rfl ⟨?_, rfl⟩⟩
    · rintro _ c h14 ⟨rfl, rfl⟩
      refine ⟨fun c h' => c = true ∧ Ext h14.size h14 h', ?_, Br.t rfl (ct_plain_Bytes (a.at_.ext (x08.after x10)) (by omega) fun h20 x20 => ⟨?_, x20⟩)⟩
      · rintro _ c h18 ⟨rfl, x18⟩
        exact q _ ((x08.after x10).after x18)
      · have : pBytes L = 0 := if_neg nr
        rw [this]; rfl
    · have : pScan L emp emp 2147483647 = [] := if_neg nr
      rw [l1, show pScan L (ByteArray.mk #[]) (ByteArray.mk #[]) 2147483647 = [] from this]; rfl
  · have r : Right L := by simpa using e
    have es : pScan L (ByteArray.mk #[]) (ByteArray.mk #[]) 2147483647 = L := scan_empty r hL
    rw [es] at o1 l1
    have o8 := o1.ext x48
    refine ⟨fun n m h' => ∃ i : Nat, m = (i : Int) ∧ n = ((prSum (L.take i) : Nat) : Int) ∧ i ≤ L.length ∧ Ext h8.size h8 h', fun _ n _ => L.length - n.toNat, ⟨0, rfl, rfl, Nat.zero_le _, Ext.refl _ _⟩, ?_⟩
    rintro _ n m h26 ⟨i, rfl, rfl, hi, x⟩
    have x026 := x08.after x
    refine Br.mk (fun h3 => ?_) fun h3 => ?_
    · simp only [decide_eq_true_eq] at h3
      rw [l1] at h3
      obtain ⟨p, hp⟩ : ∃ p, L[i]? = some p := ⟨_, List.getElem?_eq_getElem (by omega)⟩
      obtain ⟨ad, ha, v, hc, hb⟩ := (o8.ext x).pairs.at_ i p hp
      have ix : ∀ K, K ad → Idx s1.a s1.len (i : Int) K := fun K k => Idx.mk ha (by omega) k
      refine ix _ ?_
      rw [nat_mul]
      refine Ld.key (hc 0 _ rfl) (ct_plain_Get (a.at_.ext x026) (by omega) fun s29 h31 x31 o29 => ?_)
      have eg : pGet L p.key = some p.val := by unfold pGet; rw [if_pos r]; exact findP_some r hp
      rw [eg] at o29 ⊢
      have hk31 : cellAt h31 (ad.add (i * 2)) = some (.string p.key) := x31.cellAt (cellAt_lt (hc 0 _ rfl)) (hc 0 _ rfl)
      have hv31 : cellAt h31 ((ad.add (i * 2)).add 1) = some (sval v) := x31.cellAt (cellAt_lt (hc 1 _ rfl)) (hc 1 _ rfl)
      refine Br.f rfl (ix _ (Ld.bytes hv31 (ct_Bytes (OwnB.bytes o29) (hb.ext x31) (Br.f (by simp) (ix _ (Ld.key hk31 (ix _ (Ld.bytes hv31 ?_))))))))
      have e1 : prSum (L.take (i + 1)) = prSum (L.take i) + (p.key.size + p.val.length) := by
        rw [List.take_add_one, hp, prSum_append]; simp [prSum]
      have b1 := prSum_take r (i + 1) (by omega)
      have e2 : IntKind.i64.wrap (IntKind.i64.wrap (((prSum (L.take i) : Nat) : Int) + (p.key.size : Int)) + (v.len : Int)) = ((prSum (L.take (i + 1)) : Nat) : Int) := by
        rw [hb.len, i64_eq (n := ((prSum (L.take i) : Nat) : Int) + _) (by omega) (by omega), i64_eq (by omega) (by omega)]
        omega
      rw [e2, wrap_succ (by omega)]
      exact ⟨⟨i + 1, rfl, rfl, by omega, x.after x31⟩, by simp only [Int.toNat_natCast]; omega⟩
    · simp only [decide_eq_false_iff_not] at h3
      rw [l1] at h3
      have ei : i = L.length := by omega
      rw [ei, List.take_length]
      refine ct_plain_Bytes (a.at_.ext x026) (by omega) fun h41 x41 => ?_
      have eb : pBytes L = (prSum L : Int) := if_pos r
      rw [eb]
      refine Br.t (by simp) (ct_Pairs (o8.ext (x.after x41)).pairs (a.at_.ext (x026.after x41)) (by omega) fun h43 x43 => ?_)
      rw [decide_eq_true rfl]
      exact q _ ((x026.after x41).after x43)
end
end Go.Dn.W
