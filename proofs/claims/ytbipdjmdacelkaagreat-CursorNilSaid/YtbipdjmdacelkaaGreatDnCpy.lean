/- Copies between rows. -/
import Derived.Test.YtbipdjmdacelkaaGreatDnClr
namespace Go.Dn
open Go

/-- so many elements are copied into a row -/
theorem copy_row {P : Program} {h : Mem} {dT sT ty e e' : TypeId} {size bytes g o dLen dCap : Nat} {src : Sl} {cur : Array Value} {cs : List Value} (hu : P.underlying dT = some (.slice e)) (hi : infoOk P e size bytes = true)
    (hg : h[g]? = some (.cells cur e' (0, 0))) (hn : cs.length = min src.len dLen * size) (hsrc : ∀ a, src.a = some a → Cells h a cs) (hnil : src.a = none → cs = []) (hfit : o + cs.length ≤ cur.size) (h1 : ∀ v ∈ cs, v.oneCell' = true) {K : Int → Mem → Prop}
    (hk : ∀ h', Upd g h h' → h'[g]? = some (.cells (cur.toList.take o ++ cs ++ cur.toList.drop (o + cs.length)).toArray e' (0, 0)) → K ((min src.len dLen : Nat) : Int) h') :
    PrimT P (Builtin.copy_ #[dT, sT] ty #[.slice (some ⟨g, o, none⟩) dLen dCap, .slice src.a src.len src.cap]) (.one (.leaf (.int .i64))) h K := by
  obtain ⟨i, z, hi', hz, hsz, hby, hzs, hpos⟩ := infoOk_spec hi
  subst hsz
  intro w hw
  subst hw
  have hst := run_storeCells_at P g o e' cs 0 cur w hg (by omega) h1
  simp only [Nat.add_zero] at hst
  refine ⟨.int .i64 ((min src.len dLen : Nat) : Int), w.setRow g (cur.toList.take o ++ cs ++ cur.toList.drop (o + cs.length)).toArray, ?_, ⟨rfl, rfl, rfl⟩, [_], rfl, _, .int _ _,
    hk _ ⟨by simp [World.setRow], fun k hk => setRow_other w g k _ hk⟩ (setRow_heap w g cur _ e' _ hg)⟩
  have hmin : Nat.min src.len dLen = min src.len dLen := rfl
  cases ha : src.a with
  | none =>
    have := hnil ha
    subst this
    simp [Builtin.copy_, run_und hu, run_size hi', Builtin.lenOf, Builtin.firstCells, hmin, goInt] at hst ⊢
    simp [hst]
  | some a =>
    have hl := run_loadCells_list (P := P) w a cs (hsrc a ha)
    rw [hn] at hl
    simp [Builtin.copy_, run_und hu, run_size hi', Builtin.lenOf, Builtin.firstCells, hmin, hl, hst, goInt]
end Go.Dn
