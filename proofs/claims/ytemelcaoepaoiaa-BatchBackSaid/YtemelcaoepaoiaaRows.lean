/-
  No cell of these rows narrows 'for every input' (looked for: loops, veiled, ifaces, maps, wideKeys, modest, calm, conditions, laid).
  DERIVED. THE GIVEN ROWS OF THIS SEAT. 22 by the template 'for every input the law returns true; each argument reads behind the call as it read before'; 0 by the template 'total and deterministic' (their statements: YtemelcaoepaoiaaTotals.lean).
  GIVEN WITH THE SEED: the statements are not yours to turn. If you find one false, say at which input.
  Laid BY PROGRAM, IN A SANDBOX (cutbox-rows.mjs): the forced cells as the released guide's own fill.sh prints them over the translation e3e31c57d13a05f4… (all of the seat's roots in one cut). By AI agents, Wed Nov 11 2026. No macro, syntax, notation, axiom, sorry.
-/
import Derived.Test.YtemelcaoepaoiaaChecked
import GoSem.Claim
import GoSem.ClaimJoined
import GoSem.ClaimMapViews
import Derived.JoinedTies
import Derived.KernelRfl
namespace Go.Proofs.Ytemelcaoepaoiaa
/- THE CELL 'sum', in the pinned program and in every row, IS THE sha256 OF THE DUMP (.gsa) THAT YtemelcaoepaoiaaProg.lean LOADS. Nothing in Lean hashes anything: it is a label: what it is worth is what the hold of that sum in a sandbox is worth. -/
noncomputable def Try.pinned : Pinned := { name := "ytemelcaoepaoiaa", sum := "e3e31c57d13a05f4acea84284f07c81110c921bf23659eb2a67c3723fe9f5bdf", checked := Try.checked }
namespace Rows
def none {H : Type} : Left H := { results := [], args := [] }

/-- 'dunnagelaw09.KeysOrder': WHATEVER THE INPUT: true; the input reads as it did. -/
def keysOrderSpec : ChangeSpec := { name := "keysOrder", fn := fun _ => fun
  | [d1, d2, d3] => { results := [.lit (.bool true)], args := [d1, d2, d3] }
  | _ => none }
def keysOrderRow : OpenClaim := { program := "ytemelcaoepaoiaa", sum := "e3e31c57d13a05f4acea84284f07c81110c921bf23659eb2a67c3723fe9f5bdf", func := "dunnage/dunnagelaw09.KeysOrder", spec := "keysOrder", apart := false }
def KeysOrderSaid : Prop := keysOrderRow.holds Try.pinned (OpenSpec.ofChange keysOrderSpec)

/-- ITS FALSE NEIGHBOUR: 'it returns false'. Refute it at one input. -/
def keysOrderWrong : ChangeSpec := { name := "keysOrder", fn := fun _ => fun
  | [d1, d2, d3] => { results := [.lit (.bool false)], args := [d1, d2, d3] }
  | _ => none }
def KeysOrderWrongFalsely : Prop := keysOrderRow.holds Try.pinned (OpenSpec.ofChange keysOrderWrong)

/-- 'dunnagelaw09.KeysNext': WHATEVER THE INPUT: true; the input reads as it did. -/
def keysNextSpec : ChangeSpec := { name := "keysNext", fn := fun _ => fun
  | [d1, d2] => { results := [.lit (.bool true)], args := [d1, d2] }
  | _ => none }
def keysNextRow : OpenClaim := { program := "ytemelcaoepaoiaa", sum := "e3e31c57d13a05f4acea84284f07c81110c921bf23659eb2a67c3723fe9f5bdf", func := "dunnage/dunnagelaw09.KeysNext", spec := "keysNext", apart := false }
def KeysNextSaid : Prop := keysNextRow.holds Try.pinned (OpenSpec.ofChange keysNextSpec)

/-- ITS FALSE NEIGHBOUR: 'it returns false'. Refute it at one input. -/
def keysNextWrong : ChangeSpec := { name := "keysNext", fn := fun _ => fun
  | [d1, d2] => { results := [.lit (.bool false)], args := [d1, d2] }
  | _ => none }
def KeysNextWrongFalsely : Prop := keysNextRow.holds Try.pinned (OpenSpec.ofChange keysNextWrong)

/-- 'dunnagelaw09.KeysParts': WHATEVER THE INPUT: true; the input reads as it did. -/
def keysPartsSpec : ChangeSpec := { name := "keysParts", fn := fun _ => fun
  | [d1, d2, d3, d4] => { results := [.lit (.bool true)], args := [d1, d2, d3, d4] }
  | _ => none }
def keysPartsRow : OpenClaim := { program := "ytemelcaoepaoiaa", sum := "e3e31c57d13a05f4acea84284f07c81110c921bf23659eb2a67c3723fe9f5bdf", func := "dunnage/dunnagelaw09.KeysParts", spec := "keysParts", apart := false }
def KeysPartsSaid : Prop := keysPartsRow.holds Try.pinned (OpenSpec.ofChange keysPartsSpec)

/-- ITS FALSE NEIGHBOUR: 'it returns false'. Refute it at one input. -/
def keysPartsWrong : ChangeSpec := { name := "keysParts", fn := fun _ => fun
  | [d1, d2, d3, d4] => { results := [.lit (.bool false)], args := [d1, d2, d3, d4] }
  | _ => none }
def KeysPartsWrongFalsely : Prop := keysPartsRow.holds Try.pinned (OpenSpec.ofChange keysPartsWrong)

/-- 'dunnagelaw09.KeysMeet': WHATEVER THE INPUT: true; the input reads as it did. -/
def keysMeetSpec : ChangeSpec := { name := "keysMeet", fn := fun _ => fun
  | [d1, d2, d3, d4, d5] => { results := [.lit (.bool true)], args := [d1, d2, d3, d4, d5] }
  | _ => none }
def keysMeetRow : OpenClaim := { program := "ytemelcaoepaoiaa", sum := "e3e31c57d13a05f4acea84284f07c81110c921bf23659eb2a67c3723fe9f5bdf", func := "dunnage/dunnagelaw09.KeysMeet", spec := "keysMeet", apart := false }
def KeysMeetSaid : Prop := keysMeetRow.holds Try.pinned (OpenSpec.ofChange keysMeetSpec)

/-- ITS FALSE NEIGHBOUR: 'it returns false'. Refute it at one input. -/
def keysMeetWrong : ChangeSpec := { name := "keysMeet", fn := fun _ => fun
  | [d1, d2, d3, d4, d5] => { results := [.lit (.bool false)], args := [d1, d2, d3, d4, d5] }
  | _ => none }
def KeysMeetWrongFalsely : Prop := keysMeetRow.holds Try.pinned (OpenSpec.ofChange keysMeetWrong)

/-- 'dunnagelaw09.KeysPrefix': WHATEVER THE INPUT: true; the input reads as it did. -/
def keysPrefixSpec : ChangeSpec := { name := "keysPrefix", fn := fun _ => fun
  | [d1, d2] => { results := [.lit (.bool true)], args := [d1, d2] }
  | _ => none }
def keysPrefixRow : OpenClaim := { program := "ytemelcaoepaoiaa", sum := "e3e31c57d13a05f4acea84284f07c81110c921bf23659eb2a67c3723fe9f5bdf", func := "dunnage/dunnagelaw09.KeysPrefix", spec := "keysPrefix", apart := false }
def KeysPrefixSaid : Prop := keysPrefixRow.holds Try.pinned (OpenSpec.ofChange keysPrefixSpec)

/-- ITS FALSE NEIGHBOUR: 'it returns false'. Refute it at one input. -/
def keysPrefixWrong : ChangeSpec := { name := "keysPrefix", fn := fun _ => fun
  | [d1, d2] => { results := [.lit (.bool false)], args := [d1, d2] }
  | _ => none }
def KeysPrefixWrongFalsely : Prop := keysPrefixRow.holds Try.pinned (OpenSpec.ofChange keysPrefixWrong)

/-- 'dunnagelaw09.KeysTell': WHATEVER THE INPUT: true; the input reads as it did. -/
def keysTellSpec : ChangeSpec := { name := "keysTell", fn := fun _ => fun
  | [d1, d2, d3, d4] => { results := [.lit (.bool true)], args := [d1, d2, d3, d4] }
  | _ => none }
def keysTellRow : OpenClaim := { program := "ytemelcaoepaoiaa", sum := "e3e31c57d13a05f4acea84284f07c81110c921bf23659eb2a67c3723fe9f5bdf", func := "dunnage/dunnagelaw09.KeysTell", spec := "keysTell", apart := false }
def KeysTellSaid : Prop := keysTellRow.holds Try.pinned (OpenSpec.ofChange keysTellSpec)

/-- ITS FALSE NEIGHBOUR: 'it returns false'. Refute it at one input. -/
def keysTellWrong : ChangeSpec := { name := "keysTell", fn := fun _ => fun
  | [d1, d2, d3, d4] => { results := [.lit (.bool false)], args := [d1, d2, d3, d4] }
  | _ => none }
def KeysTellWrongFalsely : Prop := keysTellRow.holds Try.pinned (OpenSpec.ofChange keysTellWrong)

/-- 'dunnagelaw10.BatchWrites': WHATEVER THE INPUT: true; the input reads as it did. -/
def batchWritesSpec : ChangeSpec := { name := "batchWrites", fn := fun _ => fun
  | [d] => { results := [.lit (.bool true)], args := [d] }
  | _ => none }
def batchWritesRow : OpenClaim := { program := "ytemelcaoepaoiaa", sum := "e3e31c57d13a05f4acea84284f07c81110c921bf23659eb2a67c3723fe9f5bdf", func := "dunnage/dunnagelaw10.BatchWrites", spec := "batchWrites", unfollowed := true, recurses := true, apart := false }
def BatchWritesSaid : Prop := batchWritesRow.holds Try.pinned (OpenSpec.ofChange batchWritesSpec)

/-- ITS FALSE NEIGHBOUR: 'it returns false'. Refute it at one input. -/
def batchWritesWrong : ChangeSpec := { name := "batchWrites", fn := fun _ => fun
  | [d] => { results := [.lit (.bool false)], args := [d] }
  | _ => none }
def BatchWritesWrongFalsely : Prop := batchWritesRow.holds Try.pinned (OpenSpec.ofChange batchWritesWrong)

/-- 'dunnagelaw11.PlainDoes': WHATEVER THE INPUT: true; the input reads as it did. -/
def plainDoesSpec : ChangeSpec := { name := "plainDoes", fn := fun _ => fun
  | [d1, d2] => { results := [.lit (.bool true)], args := [d1, d2] }
  | _ => none }
def plainDoesRow : OpenClaim := { program := "ytemelcaoepaoiaa", sum := "e3e31c57d13a05f4acea84284f07c81110c921bf23659eb2a67c3723fe9f5bdf", func := "dunnage/dunnagelaw11.PlainDoes", spec := "plainDoes", inPlace := ["internal/bytealg.abigen_runtime_cmpstring", "slices.overlaps[dunnage/api.Pair]"], unfollowed := true, recurses := true, apart := false }
def PlainDoesSaid : Prop := plainDoesRow.holds Try.pinned (OpenSpec.ofChange plainDoesSpec)

/-- ITS FALSE NEIGHBOUR: 'it returns false'. Refute it at one input. -/
def plainDoesWrong : ChangeSpec := { name := "plainDoes", fn := fun _ => fun
  | [d1, d2] => { results := [.lit (.bool false)], args := [d1, d2] }
  | _ => none }
def PlainDoesWrongFalsely : Prop := plainDoesRow.holds Try.pinned (OpenSpec.ofChange plainDoesWrong)

/-- 'dunnagelaw11.PlainBoth': WHATEVER THE INPUT: true; the input reads as it did. -/
def plainBothSpec : ChangeSpec := { name := "plainBoth", fn := fun _ => fun
  | [d1, d2, d3] => { results := [.lit (.bool true)], args := [d1, d2, d3] }
  | _ => none }
def plainBothRow : OpenClaim := { program := "ytemelcaoepaoiaa", sum := "e3e31c57d13a05f4acea84284f07c81110c921bf23659eb2a67c3723fe9f5bdf", func := "dunnage/dunnagelaw11.PlainBoth", spec := "plainBoth", inPlace := ["internal/bytealg.abigen_runtime_cmpstring", "slices.overlaps[dunnage/api.Pair]"], unfollowed := true, recurses := true, apart := false }
def PlainBothSaid : Prop := plainBothRow.holds Try.pinned (OpenSpec.ofChange plainBothSpec)

/-- ITS FALSE NEIGHBOUR: 'it returns false'. Refute it at one input. -/
def plainBothWrong : ChangeSpec := { name := "plainBoth", fn := fun _ => fun
  | [d1, d2, d3] => { results := [.lit (.bool false)], args := [d1, d2, d3] }
  | _ => none }
def PlainBothWrongFalsely : Prop := plainBothRow.holds Try.pinned (OpenSpec.ofChange plainBothWrong)

/-- 'dunnagelaw11.PlainOthers': WHATEVER THE INPUT: true; the input reads as it did. -/
def plainOthersSpec : ChangeSpec := { name := "plainOthers", fn := fun _ => fun
  | [d1, d2, d3] => { results := [.lit (.bool true)], args := [d1, d2, d3] }
  | _ => none }
def plainOthersRow : OpenClaim := { program := "ytemelcaoepaoiaa", sum := "e3e31c57d13a05f4acea84284f07c81110c921bf23659eb2a67c3723fe9f5bdf", func := "dunnage/dunnagelaw11.PlainOthers", spec := "plainOthers", inPlace := ["internal/bytealg.abigen_runtime_cmpstring", "slices.overlaps[dunnage/api.Pair]"], unfollowed := true, recurses := true, apart := false }
def PlainOthersSaid : Prop := plainOthersRow.holds Try.pinned (OpenSpec.ofChange plainOthersSpec)

/-- ITS FALSE NEIGHBOUR: 'it returns false'. Refute it at one input. -/
def plainOthersWrong : ChangeSpec := { name := "plainOthers", fn := fun _ => fun
  | [d1, d2, d3] => { results := [.lit (.bool false)], args := [d1, d2, d3] }
  | _ => none }
def PlainOthersWrongFalsely : Prop := plainOthersRow.holds Try.pinned (OpenSpec.ofChange plainOthersWrong)

/-- 'dunnagelaw11.PlainOrder': WHATEVER THE INPUT: true; the input reads as it did. -/
def plainOrderSpec : ChangeSpec := { name := "plainOrder", fn := fun _ => fun
  | [d1, d2, d3] => { results := [.lit (.bool true)], args := [d1, d2, d3] }
  | _ => none }
def plainOrderRow : OpenClaim := { program := "ytemelcaoepaoiaa", sum := "e3e31c57d13a05f4acea84284f07c81110c921bf23659eb2a67c3723fe9f5bdf", func := "dunnage/dunnagelaw11.PlainOrder", spec := "plainOrder", inPlace := ["internal/bytealg.abigen_runtime_cmpstring", "slices.overlaps[dunnage/api.Pair]"], unfollowed := true, recurses := true, apart := false }
def PlainOrderSaid : Prop := plainOrderRow.holds Try.pinned (OpenSpec.ofChange plainOrderSpec)

/-- ITS FALSE NEIGHBOUR: 'it returns false'. Refute it at one input. -/
def plainOrderWrong : ChangeSpec := { name := "plainOrder", fn := fun _ => fun
  | [d1, d2, d3] => { results := [.lit (.bool false)], args := [d1, d2, d3] }
  | _ => none }
def PlainOrderWrongFalsely : Prop := plainOrderRow.holds Try.pinned (OpenSpec.ofChange plainOrderWrong)

/-- 'dunnagelaw11.PlainScans': WHATEVER THE INPUT: true; the input reads as it did. -/
def plainScansSpec : ChangeSpec := { name := "plainScans", fn := fun _ => fun
  | [d1, d2, d3, d4, d5] => { results := [.lit (.bool true)], args := [d1, d2, d3, d4, d5] }
  | _ => none }
def plainScansRow : OpenClaim := { program := "ytemelcaoepaoiaa", sum := "e3e31c57d13a05f4acea84284f07c81110c921bf23659eb2a67c3723fe9f5bdf", func := "dunnage/dunnagelaw11.PlainScans", spec := "plainScans", inPlace := ["internal/bytealg.abigen_runtime_cmpstring", "slices.overlaps[dunnage/api.Pair]"], unfollowed := true, recurses := true, apart := false }
def PlainScansSaid : Prop := plainScansRow.holds Try.pinned (OpenSpec.ofChange plainScansSpec)

/-- ITS FALSE NEIGHBOUR: 'it returns false'. Refute it at one input. -/
def plainScansWrong : ChangeSpec := { name := "plainScans", fn := fun _ => fun
  | [d1, d2, d3, d4, d5] => { results := [.lit (.bool false)], args := [d1, d2, d3, d4, d5] }
  | _ => none }
def PlainScansWrongFalsely : Prop := plainScansRow.holds Try.pinned (OpenSpec.ofChange plainScansWrong)

/-- 'dunnagelaw10.BatchReads': WHATEVER THE INPUT: true; the input reads as it did. -/
def batchReadsSpec : ChangeSpec := { name := "batchReads", fn := fun _ => fun
  | [d] => { results := [.lit (.bool true)], args := [d] }
  | _ => none }
def batchReadsRow : OpenClaim := { program := "ytemelcaoepaoiaa", sum := "e3e31c57d13a05f4acea84284f07c81110c921bf23659eb2a67c3723fe9f5bdf", func := "dunnage/dunnagelaw10.BatchReads", spec := "batchReads", unfollowed := true, recurses := true, apart := false }
def BatchReadsSaid : Prop := batchReadsRow.holds Try.pinned (OpenSpec.ofChange batchReadsSpec)

/-- ITS FALSE NEIGHBOUR: 'it returns false'. Refute it at one input. -/
def batchReadsWrong : ChangeSpec := { name := "batchReads", fn := fun _ => fun
  | [d] => { results := [.lit (.bool false)], args := [d] }
  | _ => none }
def BatchReadsWrongFalsely : Prop := batchReadsRow.holds Try.pinned (OpenSpec.ofChange batchReadsWrong)

/-- 'dunnagelaw10.BatchBack': WHATEVER THE INPUT: true; the input reads as it did. -/
def batchBackSpec : ChangeSpec := { name := "batchBack", fn := fun _ => fun
  | [d1, d2, d3] => { results := [.lit (.bool true)], args := [d1, d2, d3] }
  | _ => none }
def batchBackRow : OpenClaim := { program := "ytemelcaoepaoiaa", sum := "e3e31c57d13a05f4acea84284f07c81110c921bf23659eb2a67c3723fe9f5bdf", func := "dunnage/dunnagelaw10.BatchBack", spec := "batchBack", unfollowed := true, recurses := true, apart := false }
def BatchBackSaid : Prop := batchBackRow.holds Try.pinned (OpenSpec.ofChange batchBackSpec)

/-- ITS FALSE NEIGHBOUR: 'it returns false'. Refute it at one input. -/
def batchBackWrong : ChangeSpec := { name := "batchBack", fn := fun _ => fun
  | [d1, d2, d3] => { results := [.lit (.bool false)], args := [d1, d2, d3] }
  | _ => none }
def BatchBackWrongFalsely : Prop := batchBackRow.holds Try.pinned (OpenSpec.ofChange batchBackWrong)

/-- 'dunnagelaw11.PlainLooks': WHATEVER THE INPUT: true; the input reads as it did. -/
def plainLooksSpec : ChangeSpec := { name := "plainLooks", fn := fun _ => fun
  | [d1, d2, d3, d4, d5] => { results := [.lit (.bool true)], args := [d1, d2, d3, d4, d5] }
  | _ => none }
def plainLooksRow : OpenClaim := { program := "ytemelcaoepaoiaa", sum := "e3e31c57d13a05f4acea84284f07c81110c921bf23659eb2a67c3723fe9f5bdf", func := "dunnage/dunnagelaw11.PlainLooks", spec := "plainLooks", inPlace := ["internal/bytealg.abigen_runtime_cmpstring", "slices.overlaps[dunnage/api.Pair]"], unfollowed := true, recurses := true, apart := false }
def PlainLooksSaid : Prop := plainLooksRow.holds Try.pinned (OpenSpec.ofChange plainLooksSpec)

/-- ITS FALSE NEIGHBOUR: 'it returns false'. Refute it at one input. -/
def plainLooksWrong : ChangeSpec := { name := "plainLooks", fn := fun _ => fun
  | [d1, d2, d3, d4, d5] => { results := [.lit (.bool false)], args := [d1, d2, d3, d4, d5] }
  | _ => none }
def PlainLooksWrongFalsely : Prop := plainLooksRow.holds Try.pinned (OpenSpec.ofChange plainLooksWrong)

/-- 'dunnagelaw11.PlainCounts': WHATEVER THE INPUT: true; the input reads as it did. -/
def plainCountsSpec : ChangeSpec := { name := "plainCounts", fn := fun _ => fun
  | [d] => { results := [.lit (.bool true)], args := [d] }
  | _ => none }
def plainCountsRow : OpenClaim := { program := "ytemelcaoepaoiaa", sum := "e3e31c57d13a05f4acea84284f07c81110c921bf23659eb2a67c3723fe9f5bdf", func := "dunnage/dunnagelaw11.PlainCounts", spec := "plainCounts", inPlace := ["internal/bytealg.abigen_runtime_cmpstring", "slices.overlaps[dunnage/api.Pair]"], unfollowed := true, recurses := true, apart := false }
def PlainCountsSaid : Prop := plainCountsRow.holds Try.pinned (OpenSpec.ofChange plainCountsSpec)

/-- ITS FALSE NEIGHBOUR: 'it returns false'. Refute it at one input. -/
def plainCountsWrong : ChangeSpec := { name := "plainCounts", fn := fun _ => fun
  | [d] => { results := [.lit (.bool false)], args := [d] }
  | _ => none }
def PlainCountsWrongFalsely : Prop := plainCountsRow.holds Try.pinned (OpenSpec.ofChange plainCountsWrong)

/-- 'dunnagelaw11.PlainDiffers': WHATEVER THE INPUT: true; the input reads as it did. -/
def plainDiffersSpec : ChangeSpec := { name := "plainDiffers", fn := fun _ => fun
  | [d1, d2] => { results := [.lit (.bool true)], args := [d1, d2] }
  | _ => none }
def plainDiffersRow : OpenClaim := { program := "ytemelcaoepaoiaa", sum := "e3e31c57d13a05f4acea84284f07c81110c921bf23659eb2a67c3723fe9f5bdf", func := "dunnage/dunnagelaw11.PlainDiffers", spec := "plainDiffers", inPlace := ["internal/bytealg.abigen_runtime_cmpstring", "slices.overlaps[dunnage/api.Pair]"], unfollowed := true, recurses := true, apart := false }
def PlainDiffersSaid : Prop := plainDiffersRow.holds Try.pinned (OpenSpec.ofChange plainDiffersSpec)

/-- ITS FALSE NEIGHBOUR: 'it returns false'. Refute it at one input. -/
def plainDiffersWrong : ChangeSpec := { name := "plainDiffers", fn := fun _ => fun
  | [d1, d2] => { results := [.lit (.bool false)], args := [d1, d2] }
  | _ => none }
def PlainDiffersWrongFalsely : Prop := plainDiffersRow.holds Try.pinned (OpenSpec.ofChange plainDiffersWrong)

/-- 'dunnagelaw11.PlainBack': WHATEVER THE INPUT: true; the input reads as it did. -/
def plainBackSpec : ChangeSpec := { name := "plainBack", fn := fun _ => fun
  | [d1, d2] => { results := [.lit (.bool true)], args := [d1, d2] }
  | _ => none }
def plainBackRow : OpenClaim := { program := "ytemelcaoepaoiaa", sum := "e3e31c57d13a05f4acea84284f07c81110c921bf23659eb2a67c3723fe9f5bdf", func := "dunnage/dunnagelaw11.PlainBack", spec := "plainBack", inPlace := ["internal/bytealg.abigen_runtime_cmpstring", "slices.overlaps[dunnage/api.Pair]"], unfollowed := true, recurses := true, apart := false }
def PlainBackSaid : Prop := plainBackRow.holds Try.pinned (OpenSpec.ofChange plainBackSpec)

/-- ITS FALSE NEIGHBOUR: 'it returns false'. Refute it at one input. -/
def plainBackWrong : ChangeSpec := { name := "plainBack", fn := fun _ => fun
  | [d1, d2] => { results := [.lit (.bool false)], args := [d1, d2] }
  | _ => none }
def PlainBackWrongFalsely : Prop := plainBackRow.holds Try.pinned (OpenSpec.ofChange plainBackWrong)

/-- 'dunnagelaw10.BatchChecks': WHATEVER THE INPUT: true; the input reads as it did. -/
def batchChecksSpec : ChangeSpec := { name := "batchChecks", fn := fun _ => fun
  | [d] => { results := [.lit (.bool true)], args := [d] }
  | _ => none }
def batchChecksRow : OpenClaim := { program := "ytemelcaoepaoiaa", sum := "e3e31c57d13a05f4acea84284f07c81110c921bf23659eb2a67c3723fe9f5bdf", func := "dunnage/dunnagelaw10.BatchChecks", spec := "batchChecks", inPlace := ["internal/bytealg.abigen_runtime_cmpstring"], unfollowed := true, recurses := true, apart := false }
def BatchChecksSaid : Prop := batchChecksRow.holds Try.pinned (OpenSpec.ofChange batchChecksSpec)

/-- ITS FALSE NEIGHBOUR: 'it returns false'. Refute it at one input. -/
def batchChecksWrong : ChangeSpec := { name := "batchChecks", fn := fun _ => fun
  | [d] => { results := [.lit (.bool false)], args := [d] }
  | _ => none }
def BatchChecksWrongFalsely : Prop := batchChecksRow.holds Try.pinned (OpenSpec.ofChange batchChecksWrong)

/-- 'dunnagelaw10.BatchLast': WHATEVER THE INPUT: true; the input reads as it did. -/
def batchLastSpec : ChangeSpec := { name := "batchLast", fn := fun _ => fun
  | [d1, d2] => { results := [.lit (.bool true)], args := [d1, d2] }
  | _ => none }
def batchLastRow : OpenClaim := { program := "ytemelcaoepaoiaa", sum := "e3e31c57d13a05f4acea84284f07c81110c921bf23659eb2a67c3723fe9f5bdf", func := "dunnage/dunnagelaw10.BatchLast", spec := "batchLast", inPlace := ["internal/bytealg.abigen_runtime_cmpstring"], unfollowed := true, recurses := true, apart := false }
def BatchLastSaid : Prop := batchLastRow.holds Try.pinned (OpenSpec.ofChange batchLastSpec)

/-- ITS FALSE NEIGHBOUR: 'it returns false'. Refute it at one input. -/
def batchLastWrong : ChangeSpec := { name := "batchLast", fn := fun _ => fun
  | [d1, d2] => { results := [.lit (.bool false)], args := [d1, d2] }
  | _ => none }
def BatchLastWrongFalsely : Prop := batchLastRow.holds Try.pinned (OpenSpec.ofChange batchLastWrong)

/-- 'dunnagelaw10.BatchFits': WHATEVER THE INPUT: true; the input reads as it did. -/
def batchFitsSpec : ChangeSpec := { name := "batchFits", fn := fun _ => fun
  | [d1, d2, d3] => { results := [.lit (.bool true)], args := [d1, d2, d3] }
  | _ => none }
def batchFitsRow : OpenClaim := { program := "ytemelcaoepaoiaa", sum := "e3e31c57d13a05f4acea84284f07c81110c921bf23659eb2a67c3723fe9f5bdf", func := "dunnage/dunnagelaw10.BatchFits", spec := "batchFits", inPlace := ["internal/bytealg.abigen_runtime_cmpstring"], unfollowed := true, recurses := true, apart := false }
def BatchFitsSaid : Prop := batchFitsRow.holds Try.pinned (OpenSpec.ofChange batchFitsSpec)

/-- ITS FALSE NEIGHBOUR: 'it returns false'. Refute it at one input. -/
def batchFitsWrong : ChangeSpec := { name := "batchFits", fn := fun _ => fun
  | [d1, d2, d3] => { results := [.lit (.bool false)], args := [d1, d2, d3] }
  | _ => none }
def BatchFitsWrongFalsely : Prop := batchFitsRow.holds Try.pinned (OpenSpec.ofChange batchFitsWrong)

/-- 'dunnagelaw11.PlainLast': WHATEVER THE INPUT: true; the input reads as it did. -/
def plainLastSpec : ChangeSpec := { name := "plainLast", fn := fun _ => fun
  | [d1, d2] => { results := [.lit (.bool true)], args := [d1, d2] }
  | _ => none }
def plainLastRow : OpenClaim := { program := "ytemelcaoepaoiaa", sum := "e3e31c57d13a05f4acea84284f07c81110c921bf23659eb2a67c3723fe9f5bdf", func := "dunnage/dunnagelaw11.PlainLast", spec := "plainLast", inPlace := ["internal/bytealg.abigen_runtime_cmpstring", "slices.overlaps[dunnage/api.Pair]"], unfollowed := true, recurses := true, apart := false }
def PlainLastSaid : Prop := plainLastRow.holds Try.pinned (OpenSpec.ofChange plainLastSpec)

/-- ITS FALSE NEIGHBOUR: 'it returns false'. Refute it at one input. -/
def plainLastWrong : ChangeSpec := { name := "plainLast", fn := fun _ => fun
  | [d1, d2] => { results := [.lit (.bool false)], args := [d1, d2] }
  | _ => none }
def PlainLastWrongFalsely : Prop := plainLastRow.holds Try.pinned (OpenSpec.ofChange plainLastWrong)

/- THE SECOND FORM. 'bulk': how many values and letters a reading holds, each counted each time it is reached (what is shared counts as often as it is met; a slice's spare places count too). A statement '..UptoSaid' is the law's where the arguments, and the package variables that the reading takes, are together of bulk at most 1048576: NARROWER than '..Said'. Prove '..Said' where nothing that the law and all that it calls make is longer than what came in: it says more and counts as full. Else prove '..UptoSaid'. A law counts once. -/
mutual
def uptoBulk {H : Type} : DataW H → Nat
  | .lit (.string bytes) => bytes.length + 1
  | .lit _ => 1
  | .nil => 1
  | .ptr d => uptoBulk d + 1
  | .slice elems spare => uptoBulkAll elems + uptoBulkAll spare + 1
  | .agg parts => uptoBulkAll parts + 1
  | .iface _ d => uptoBulk d + 1
  | .map entries => uptoBulkEntries entries + 1
  | .held _ => 1
def uptoBulkAll {H : Type} : List (DataW H) → Nat
  | [] => 0
  | d :: r => uptoBulk d + uptoBulkAll r
def uptoBulkEntries {H : Type} : List (Lit × DataW H) → Nat
  | [] => 0
  | x :: r => uptoBulkEntry x + uptoBulkEntries r
def uptoBulkEntry {H : Type} : Lit × DataW H → Nat
  | (.string bytes, d) => bytes.length + uptoBulk d + 1
  | (_, d) => uptoBulk d + 1
 end
def uptoSmall : (H : Type) → List (DataW H) → Bool := fun _ ds => decide (uptoBulkAll ds ≤ 1048576)
def OpenSpec.upto (s : _root_.Go.ChangeSpec) : _root_.Go.OpenSpec := { _root_.Go.OpenSpec.ofChange s with cond := some uptoSmall }

/-- 'dunnagelaw09.KeysOrder', WHERE WHAT IT READS IS OF BULK AT MOST 1048576: true; the input reads as it did. -/
def keysOrderUptoRow : OpenClaim := { program := "ytemelcaoepaoiaa", sum := "e3e31c57d13a05f4acea84284f07c81110c921bf23659eb2a67c3723fe9f5bdf", func := "dunnage/dunnagelaw09.KeysOrder", spec := "keysOrder", apart := false, narrowed := true }
def KeysOrderUptoSaid : Prop := keysOrderUptoRow.holds Try.pinned (OpenSpec.upto keysOrderSpec)

/-- 'dunnagelaw09.KeysNext', WHERE WHAT IT READS IS OF BULK AT MOST 1048576: true; the input reads as it did. -/
def keysNextUptoRow : OpenClaim := { program := "ytemelcaoepaoiaa", sum := "e3e31c57d13a05f4acea84284f07c81110c921bf23659eb2a67c3723fe9f5bdf", func := "dunnage/dunnagelaw09.KeysNext", spec := "keysNext", apart := false, narrowed := true }
def KeysNextUptoSaid : Prop := keysNextUptoRow.holds Try.pinned (OpenSpec.upto keysNextSpec)

/-- 'dunnagelaw09.KeysParts', WHERE WHAT IT READS IS OF BULK AT MOST 1048576: true; the input reads as it did. -/
def keysPartsUptoRow : OpenClaim := { program := "ytemelcaoepaoiaa", sum := "e3e31c57d13a05f4acea84284f07c81110c921bf23659eb2a67c3723fe9f5bdf", func := "dunnage/dunnagelaw09.KeysParts", spec := "keysParts", apart := false, narrowed := true }
def KeysPartsUptoSaid : Prop := keysPartsUptoRow.holds Try.pinned (OpenSpec.upto keysPartsSpec)

/-- 'dunnagelaw09.KeysMeet', WHERE WHAT IT READS IS OF BULK AT MOST 1048576: true; the input reads as it did. -/
def keysMeetUptoRow : OpenClaim := { program := "ytemelcaoepaoiaa", sum := "e3e31c57d13a05f4acea84284f07c81110c921bf23659eb2a67c3723fe9f5bdf", func := "dunnage/dunnagelaw09.KeysMeet", spec := "keysMeet", apart := false, narrowed := true }
def KeysMeetUptoSaid : Prop := keysMeetUptoRow.holds Try.pinned (OpenSpec.upto keysMeetSpec)

/-- 'dunnagelaw09.KeysPrefix', WHERE WHAT IT READS IS OF BULK AT MOST 1048576: true; the input reads as it did. -/
def keysPrefixUptoRow : OpenClaim := { program := "ytemelcaoepaoiaa", sum := "e3e31c57d13a05f4acea84284f07c81110c921bf23659eb2a67c3723fe9f5bdf", func := "dunnage/dunnagelaw09.KeysPrefix", spec := "keysPrefix", apart := false, narrowed := true }
def KeysPrefixUptoSaid : Prop := keysPrefixUptoRow.holds Try.pinned (OpenSpec.upto keysPrefixSpec)

/-- 'dunnagelaw09.KeysTell', WHERE WHAT IT READS IS OF BULK AT MOST 1048576: true; the input reads as it did. -/
def keysTellUptoRow : OpenClaim := { program := "ytemelcaoepaoiaa", sum := "e3e31c57d13a05f4acea84284f07c81110c921bf23659eb2a67c3723fe9f5bdf", func := "dunnage/dunnagelaw09.KeysTell", spec := "keysTell", apart := false, narrowed := true }
def KeysTellUptoSaid : Prop := keysTellUptoRow.holds Try.pinned (OpenSpec.upto keysTellSpec)

/-- 'dunnagelaw10.BatchWrites', WHERE WHAT IT READS IS OF BULK AT MOST 1048576: true; the input reads as it did. -/
def batchWritesUptoRow : OpenClaim := { program := "ytemelcaoepaoiaa", sum := "e3e31c57d13a05f4acea84284f07c81110c921bf23659eb2a67c3723fe9f5bdf", func := "dunnage/dunnagelaw10.BatchWrites", spec := "batchWrites", unfollowed := true, recurses := true, apart := false, narrowed := true }
def BatchWritesUptoSaid : Prop := batchWritesUptoRow.holds Try.pinned (OpenSpec.upto batchWritesSpec)

/-- 'dunnagelaw11.PlainDoes', WHERE WHAT IT READS IS OF BULK AT MOST 1048576: true; the input reads as it did. -/
def plainDoesUptoRow : OpenClaim := { program := "ytemelcaoepaoiaa", sum := "e3e31c57d13a05f4acea84284f07c81110c921bf23659eb2a67c3723fe9f5bdf", func := "dunnage/dunnagelaw11.PlainDoes", spec := "plainDoes", inPlace := ["internal/bytealg.abigen_runtime_cmpstring", "slices.overlaps[dunnage/api.Pair]"], unfollowed := true, recurses := true, apart := false, narrowed := true }
def PlainDoesUptoSaid : Prop := plainDoesUptoRow.holds Try.pinned (OpenSpec.upto plainDoesSpec)

/-- 'dunnagelaw11.PlainBoth', WHERE WHAT IT READS IS OF BULK AT MOST 1048576: true; the input reads as it did. -/
def plainBothUptoRow : OpenClaim := { program := "ytemelcaoepaoiaa", sum := "e3e31c57d13a05f4acea84284f07c81110c921bf23659eb2a67c3723fe9f5bdf", func := "dunnage/dunnagelaw11.PlainBoth", spec := "plainBoth", inPlace := ["internal/bytealg.abigen_runtime_cmpstring", "slices.overlaps[dunnage/api.Pair]"], unfollowed := true, recurses := true, apart := false, narrowed := true }
def PlainBothUptoSaid : Prop := plainBothUptoRow.holds Try.pinned (OpenSpec.upto plainBothSpec)

/-- 'dunnagelaw11.PlainOthers', WHERE WHAT IT READS IS OF BULK AT MOST 1048576: true; the input reads as it did. -/
def plainOthersUptoRow : OpenClaim := { program := "ytemelcaoepaoiaa", sum := "e3e31c57d13a05f4acea84284f07c81110c921bf23659eb2a67c3723fe9f5bdf", func := "dunnage/dunnagelaw11.PlainOthers", spec := "plainOthers", inPlace := ["internal/bytealg.abigen_runtime_cmpstring", "slices.overlaps[dunnage/api.Pair]"], unfollowed := true, recurses := true, apart := false, narrowed := true }
def PlainOthersUptoSaid : Prop := plainOthersUptoRow.holds Try.pinned (OpenSpec.upto plainOthersSpec)

/-- 'dunnagelaw11.PlainOrder', WHERE WHAT IT READS IS OF BULK AT MOST 1048576: true; the input reads as it did. -/
def plainOrderUptoRow : OpenClaim := { program := "ytemelcaoepaoiaa", sum := "e3e31c57d13a05f4acea84284f07c81110c921bf23659eb2a67c3723fe9f5bdf", func := "dunnage/dunnagelaw11.PlainOrder", spec := "plainOrder", inPlace := ["internal/bytealg.abigen_runtime_cmpstring", "slices.overlaps[dunnage/api.Pair]"], unfollowed := true, recurses := true, apart := false, narrowed := true }
def PlainOrderUptoSaid : Prop := plainOrderUptoRow.holds Try.pinned (OpenSpec.upto plainOrderSpec)

/-- 'dunnagelaw11.PlainScans', WHERE WHAT IT READS IS OF BULK AT MOST 1048576: true; the input reads as it did. -/
def plainScansUptoRow : OpenClaim := { program := "ytemelcaoepaoiaa", sum := "e3e31c57d13a05f4acea84284f07c81110c921bf23659eb2a67c3723fe9f5bdf", func := "dunnage/dunnagelaw11.PlainScans", spec := "plainScans", inPlace := ["internal/bytealg.abigen_runtime_cmpstring", "slices.overlaps[dunnage/api.Pair]"], unfollowed := true, recurses := true, apart := false, narrowed := true }
def PlainScansUptoSaid : Prop := plainScansUptoRow.holds Try.pinned (OpenSpec.upto plainScansSpec)

/-- 'dunnagelaw10.BatchReads', WHERE WHAT IT READS IS OF BULK AT MOST 1048576: true; the input reads as it did. -/
def batchReadsUptoRow : OpenClaim := { program := "ytemelcaoepaoiaa", sum := "e3e31c57d13a05f4acea84284f07c81110c921bf23659eb2a67c3723fe9f5bdf", func := "dunnage/dunnagelaw10.BatchReads", spec := "batchReads", unfollowed := true, recurses := true, apart := false, narrowed := true }
def BatchReadsUptoSaid : Prop := batchReadsUptoRow.holds Try.pinned (OpenSpec.upto batchReadsSpec)

/-- 'dunnagelaw10.BatchBack', WHERE WHAT IT READS IS OF BULK AT MOST 1048576: true; the input reads as it did. -/
def batchBackUptoRow : OpenClaim := { program := "ytemelcaoepaoiaa", sum := "e3e31c57d13a05f4acea84284f07c81110c921bf23659eb2a67c3723fe9f5bdf", func := "dunnage/dunnagelaw10.BatchBack", spec := "batchBack", unfollowed := true, recurses := true, apart := false, narrowed := true }
def BatchBackUptoSaid : Prop := batchBackUptoRow.holds Try.pinned (OpenSpec.upto batchBackSpec)

/-- 'dunnagelaw11.PlainLooks', WHERE WHAT IT READS IS OF BULK AT MOST 1048576: true; the input reads as it did. -/
def plainLooksUptoRow : OpenClaim := { program := "ytemelcaoepaoiaa", sum := "e3e31c57d13a05f4acea84284f07c81110c921bf23659eb2a67c3723fe9f5bdf", func := "dunnage/dunnagelaw11.PlainLooks", spec := "plainLooks", inPlace := ["internal/bytealg.abigen_runtime_cmpstring", "slices.overlaps[dunnage/api.Pair]"], unfollowed := true, recurses := true, apart := false, narrowed := true }
def PlainLooksUptoSaid : Prop := plainLooksUptoRow.holds Try.pinned (OpenSpec.upto plainLooksSpec)

/-- 'dunnagelaw11.PlainCounts', WHERE WHAT IT READS IS OF BULK AT MOST 1048576: true; the input reads as it did. -/
def plainCountsUptoRow : OpenClaim := { program := "ytemelcaoepaoiaa", sum := "e3e31c57d13a05f4acea84284f07c81110c921bf23659eb2a67c3723fe9f5bdf", func := "dunnage/dunnagelaw11.PlainCounts", spec := "plainCounts", inPlace := ["internal/bytealg.abigen_runtime_cmpstring", "slices.overlaps[dunnage/api.Pair]"], unfollowed := true, recurses := true, apart := false, narrowed := true }
def PlainCountsUptoSaid : Prop := plainCountsUptoRow.holds Try.pinned (OpenSpec.upto plainCountsSpec)

/-- 'dunnagelaw11.PlainDiffers', WHERE WHAT IT READS IS OF BULK AT MOST 1048576: true; the input reads as it did. -/
def plainDiffersUptoRow : OpenClaim := { program := "ytemelcaoepaoiaa", sum := "e3e31c57d13a05f4acea84284f07c81110c921bf23659eb2a67c3723fe9f5bdf", func := "dunnage/dunnagelaw11.PlainDiffers", spec := "plainDiffers", inPlace := ["internal/bytealg.abigen_runtime_cmpstring", "slices.overlaps[dunnage/api.Pair]"], unfollowed := true, recurses := true, apart := false, narrowed := true }
def PlainDiffersUptoSaid : Prop := plainDiffersUptoRow.holds Try.pinned (OpenSpec.upto plainDiffersSpec)

/-- 'dunnagelaw11.PlainBack', WHERE WHAT IT READS IS OF BULK AT MOST 1048576: true; the input reads as it did. -/
def plainBackUptoRow : OpenClaim := { program := "ytemelcaoepaoiaa", sum := "e3e31c57d13a05f4acea84284f07c81110c921bf23659eb2a67c3723fe9f5bdf", func := "dunnage/dunnagelaw11.PlainBack", spec := "plainBack", inPlace := ["internal/bytealg.abigen_runtime_cmpstring", "slices.overlaps[dunnage/api.Pair]"], unfollowed := true, recurses := true, apart := false, narrowed := true }
def PlainBackUptoSaid : Prop := plainBackUptoRow.holds Try.pinned (OpenSpec.upto plainBackSpec)

/-- 'dunnagelaw10.BatchChecks', WHERE WHAT IT READS IS OF BULK AT MOST 1048576: true; the input reads as it did. -/
def batchChecksUptoRow : OpenClaim := { program := "ytemelcaoepaoiaa", sum := "e3e31c57d13a05f4acea84284f07c81110c921bf23659eb2a67c3723fe9f5bdf", func := "dunnage/dunnagelaw10.BatchChecks", spec := "batchChecks", inPlace := ["internal/bytealg.abigen_runtime_cmpstring"], unfollowed := true, recurses := true, apart := false, narrowed := true }
def BatchChecksUptoSaid : Prop := batchChecksUptoRow.holds Try.pinned (OpenSpec.upto batchChecksSpec)

/-- 'dunnagelaw10.BatchLast', WHERE WHAT IT READS IS OF BULK AT MOST 1048576: true; the input reads as it did. -/
def batchLastUptoRow : OpenClaim := { program := "ytemelcaoepaoiaa", sum := "e3e31c57d13a05f4acea84284f07c81110c921bf23659eb2a67c3723fe9f5bdf", func := "dunnage/dunnagelaw10.BatchLast", spec := "batchLast", inPlace := ["internal/bytealg.abigen_runtime_cmpstring"], unfollowed := true, recurses := true, apart := false, narrowed := true }
def BatchLastUptoSaid : Prop := batchLastUptoRow.holds Try.pinned (OpenSpec.upto batchLastSpec)

/-- 'dunnagelaw10.BatchFits', WHERE WHAT IT READS IS OF BULK AT MOST 1048576: true; the input reads as it did. -/
def batchFitsUptoRow : OpenClaim := { program := "ytemelcaoepaoiaa", sum := "e3e31c57d13a05f4acea84284f07c81110c921bf23659eb2a67c3723fe9f5bdf", func := "dunnage/dunnagelaw10.BatchFits", spec := "batchFits", inPlace := ["internal/bytealg.abigen_runtime_cmpstring"], unfollowed := true, recurses := true, apart := false, narrowed := true }
def BatchFitsUptoSaid : Prop := batchFitsUptoRow.holds Try.pinned (OpenSpec.upto batchFitsSpec)

/-- 'dunnagelaw11.PlainLast', WHERE WHAT IT READS IS OF BULK AT MOST 1048576: true; the input reads as it did. -/
def plainLastUptoRow : OpenClaim := { program := "ytemelcaoepaoiaa", sum := "e3e31c57d13a05f4acea84284f07c81110c921bf23659eb2a67c3723fe9f5bdf", func := "dunnage/dunnagelaw11.PlainLast", spec := "plainLast", inPlace := ["internal/bytealg.abigen_runtime_cmpstring", "slices.overlaps[dunnage/api.Pair]"], unfollowed := true, recurses := true, apart := false, narrowed := true }
def PlainLastUptoSaid : Prop := plainLastUptoRow.holds Try.pinned (OpenSpec.upto plainLastSpec)

end Rows
end Go.Proofs.Ytemelcaoepaoiaa
