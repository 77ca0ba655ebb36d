/- Laws of layer 10: which operations are a batch; the last operations. -/
import Derived.Test.YtemelcaoepaoiaaDnWr
import Derived.Test.YtemelcaoepaoiaaDnRLast
import Derived.Test.YtemelcaoepaoiaaDnPArg
import Derived.Test.YtemelcaoepaoiaaDnL11a
set_option linter.unusedVariables false
namespace Go.Dn.W
open Go Go.Dn Go.Proofs

section
variable {h : Mem}

/-- the values of so many operations are bytes that a function has made -/
def SpoilO (h : Mem) (B : Nat) (s : Sl) (n : Nat) : Prop := ∀ i, i < n → ∃ a v, s.a = some a ∧ cellAt h ((a.add (i * 3)).add 1) = some (sval v) ∧ SomeB h B ty_uint8 v ∧ v.len ≤ 140737488355328
theorem SpoilO.spoilt {h h' : Mem} {B B0 : Nat} {s : Sl} {n : Nat} (x : SpoilO h B s n) (y : Spoilt B0 h h') : SpoilO h' B s n := fun i hi =>
  let ⟨a, v, h1, h2, h3, h4⟩ := x i hi; ⟨a, v, h1, y.cell h2 fun b => by unfold bcell; simp, y.someB h3, h4⟩
theorem OwnO.spoil {B : Nat} {s : Sl} {l : List Opn} (o : OwnO h B s l) (hs : ShortO l) : SpoilO h B s l.length := fun i hi => by
  obtain ⟨p, hp⟩ : ∃ p, l[i]? = some p := ⟨_, List.getElem?_eq_getElem hi⟩
  obtain ⟨a, cs, ha, hc, ⟨v, rfl, hv⟩, _⟩ := OwnL.get o (by decide) hp
  exact ⟨a, v, ha, hc 1 _ rfl, ⟨_, hv⟩, by rw [hv.len]; exact hs i p hp⟩
theorem spoil_ops {B : Nat} {s : Sl} {n : Nat} (o : SpoilO h B s n) (hlen : s.len = n) (hl : n ≤ 140737488355328) {K : Mem → Prop} (k : ∀ h', Spoilt B h h' → K h') :
    ∃ (I17 : Int → Mem → Prop), ∃ (I18 : Int → Mem → Nat), I17 0 h ∧ ∀ (j19 : Fr) (n20 : Int) (h21 : Mem), I17 n20 h21 →
      Br (decide (n20 < (↑s.len : Int)))
        (Idx s.a s.len n20 fun (p22 : Addr) =>
          Ld PG ty_sl_uint8 ((p22.add (n20.toNat * 3)).add 1) (Kd.one (Cmp.leaf Leaf.sl)) h21 fun (s23 : Sl) =>
            CallF PG fn_dunnagehelp_Spoil [Value.slice s23.a s23.len s23.cap] (Kd.tup []) h21 fun (h24 : Mem) =>
              I17 (IntKind.i64.wrap (n20 + 1)) h24 ∧ I18 (IntKind.i64.wrap (n20 + 1)) h24 < I18 n20 h21)
        (K h21) := by
  refine ⟨fun m h' => ∃ i : Nat, m = (i : Int) ∧ i ≤ n ∧ Spoilt B h h', fun m _ => n - m.toNat, ⟨0, rfl, Nat.zero_le _, Spoilt.refl _ _⟩, ?_⟩
  rintro _ m h1 ⟨i, rfl, hi, x⟩
  refine Br.mk (fun h2 => ?_) fun _ => k _ x
  simp only [decide_eq_true_eq] at h2
  rw [hlen] at h2
  obtain ⟨a, v, ha, hc, hv, hvl⟩ := (o.spoilt x) i (by omega)
  refine Idx.mk ha (by omega) ?_
  rw [nat_mul]
  refine Ld.bytes (v := v) hc (ct_Spoil hv hvl fun h3 x3 => ?_)
  rw [wrap_succ (by omega)]
  exact ⟨⟨i + 1, rfl, by omega, x.trans x3⟩, by simp only [Int.toNat_natCast]; omega⟩

theorem law_BatchChecks {t : Sl} {O : List Opn} {Q : Bool → Mem → Prop} (b : OpsIn h t O) (q : ∀ h', Ext h.size h h' → Q true h') : wp_dunnagelaw10_BatchChecks t h Q := by
  have sb := b.size
  have hk : ∀ (i : Nat) (o : Opn), O[i]? = some o → o.key.size ≤ 140737488355328 := fun i o ho => Nat.le_trans (b.key o (List.mem_of_getElem? ho)) (by decide)
  have hpl := pLast_length O
  have hps : ShortO (pLast O) := fun i o ho => by
    obtain ⟨j, hj⟩ := List.getElem?_of_mem (pLast_mem (List.mem_of_getElem? ho))
    exact b.short j o hj
  refine ct_CopyOps b.at_ b.short (by omega) fun s1 h2 x2 o2 => ?_
  refine ct_batch_Last o2.ops b.short hk (by omega) fun s3 h4 x4 o4 => ct_awake10 fun h6 x6 => ?_
  have x26 := x4.after x6
  refine ⟨fun c h' => c = false ∧ Ext h6.size h6 h', ?_, ?_⟩
  · rintro _ c h10 ⟨rfl, x10⟩
    refine Br.f rfl ?_
    have x2a := x26.after x10
    refine ct_Size (o2.ext EOp.stab x2a).ops (by omega) b.ok fun h12 x12 => ?_
    have x2b := x2a.after x12
    refine ct_ref_Size (b.at_.ext (x2.after x2b)) (by omega) (Br.f (by simp) ?_)
    refine ct_ref10_Last (b.at_.ext (x2.after x2b)) b.short b.key (by omega) fun s15 h16 x16 o16 => ?_
    have x4c : Ext h4.size h4 h16 := (x6.after x10).after (x12.after x16)
    have x2c : Ext h2.size h2 h16 := x4.after x4c
    refine ct_Ops (o4.ext EOp.stab x4c).ops o16.ops (by omega) fun h18 x18 => Br.f (by rw [decide_eq_true rfl]; rfl) ?_
    have x4d := x4c.after x18
    have x2d := x2c.after x18
    have o18 := o4.ext EOp.stab x4d
    refine spoil_ops (OwnO.spoil o18 hps) (o18.len (by decide)) (by omega) fun h23 sp => ?_
    have x2e : Ext h2.size h2 h23 := x2d.trans sp.ext
    have x0e := x2.after x2e
    refine ct_Ops (o2.ext EOp.stab x2e).ops (b.at_.ext x0e) (by omega) fun h28 x28 => ?_
    rw [decide_eq_true rfl]
    exact q _ (x0e.after x28)
  · refine Br.f rfl (ct_batch_Check (o2.ext EOp.stab x26).ops (by omega) b.ok fun h30 x30 => ?_)
    refine ct_ref_Check (b.at_.ext (x2.after (x26.after x30))) (by omega) ⟨by simp, x30⟩
end
end Go.Dn.W
