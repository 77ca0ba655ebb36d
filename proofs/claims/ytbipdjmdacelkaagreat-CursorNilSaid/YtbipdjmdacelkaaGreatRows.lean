/-
  No cell of these rows narrows 'for every input' (looked for: loops, veiled, ifaces, maps, wideKeys, modest, calm, conditions, laid).
  DERIVED. THE GIVEN ROWS OF THIS SEAT. 15 by the template 'for every input the law returns true; each argument reads behind the call as it read before'; 0 by the template 'total and deterministic' (their statements: YtbipdjmdacelkaaGreatTotals.lean).
  GIVEN WITH THE SEED: the statements are not yours to turn. If you find one false, say at which input.
  Laid BY PROGRAM, IN A SANDBOX (cutbox-rows.mjs): the forced cells as the released guide's own fill.sh prints them over the translation b5b0dc9a5d7d34c3… (all of the seat's roots in one cut). By AI agents, Wed Nov 11 2026. No macro, syntax, notation, axiom, sorry.
-/
import Derived.Test.YtbipdjmdacelkaaGreatChecked
import GoSem.Claim
import GoSem.ClaimJoined
import GoSem.ClaimMapViews
import Derived.JoinedTies
import Derived.KernelRfl
namespace Go.Proofs.YtbipdjmdacelkaaGreat
/- THE CELL 'sum', in the pinned program and in every row, IS THE sha256 OF THE DUMP (.gsa) THAT YtbipdjmdacelkaaGreatProg.lean LOADS. Nothing in Lean hashes anything: it is a label: what it is worth is what the hold of that sum in a sandbox is worth. -/
noncomputable def Tryz.pinned : Pinned := { name := "ytbipdjmdacelkaagreat", sum := "b5b0dc9a5d7d34c38d15122945371f8a3c38ee1e10b3aaf254ae00ffcf54b2b9", checked := Tryz.checked }
namespace Rows
def none {H : Type} : Left H := { results := [], args := [] }

/-- 'dunnagelaw17.TreeNeighbours': WHATEVER THE INPUT: true; the input reads as it did. -/
def treeNeighboursSpec : ChangeSpec := { name := "treeNeighbours", fn := fun _ => fun
  | [d1, d2] => { results := [.lit (.bool true)], args := [d1, d2] }
  | _ => none }
def treeNeighboursRow : OpenClaim := { program := "ytbipdjmdacelkaagreat", sum := "b5b0dc9a5d7d34c38d15122945371f8a3c38ee1e10b3aaf254ae00ffcf54b2b9", func := "dunnage/dunnagelaw17.TreeNeighbours", spec := "treeNeighbours", inPlace := ["slices.overlaps[string]", "slices.overlaps[dunnage/api.Ref]", "slices.overlaps[int]"], unfollowed := true, recurses := true, apart := false }
def TreeNeighboursSaid : Prop := treeNeighboursRow.holds Tryz.pinned (OpenSpec.ofChange treeNeighboursSpec)

/-- ITS FALSE NEIGHBOUR: 'it returns false'. Refute it at one input. -/
def treeNeighboursWrong : ChangeSpec := { name := "treeNeighbours", fn := fun _ => fun
  | [d1, d2] => { results := [.lit (.bool false)], args := [d1, d2] }
  | _ => none }
def TreeNeighboursWrongFalsely : Prop := treeNeighboursRow.holds Tryz.pinned (OpenSpec.ofChange treeNeighboursWrong)

/-- 'dunnagelaw17.TreeCopies': WHATEVER THE INPUT: true; the input reads as it did. -/
def treeCopiesSpec : ChangeSpec := { name := "treeCopies", fn := fun _ => fun
  | [d1, d2] => { results := [.lit (.bool true)], args := [d1, d2] }
  | _ => none }
def treeCopiesRow : OpenClaim := { program := "ytbipdjmdacelkaagreat", sum := "b5b0dc9a5d7d34c38d15122945371f8a3c38ee1e10b3aaf254ae00ffcf54b2b9", func := "dunnage/dunnagelaw17.TreeCopies", spec := "treeCopies", inPlace := ["slices.overlaps[string]", "slices.overlaps[dunnage/api.Ref]", "slices.overlaps[int]"], unfollowed := true, recurses := true, apart := false }
def TreeCopiesSaid : Prop := treeCopiesRow.holds Tryz.pinned (OpenSpec.ofChange treeCopiesSpec)

/-- ITS FALSE NEIGHBOUR: 'it returns false'. Refute it at one input. -/
def treeCopiesWrong : ChangeSpec := { name := "treeCopies", fn := fun _ => fun
  | [d1, d2] => { results := [.lit (.bool false)], args := [d1, d2] }
  | _ => none }
def TreeCopiesWrongFalsely : Prop := treeCopiesRow.holds Tryz.pinned (OpenSpec.ofChange treeCopiesWrong)

/-- 'dunnagelaw17.TreeOrders': WHATEVER THE INPUT: true; the input reads as it did. -/
def treeOrdersSpec : ChangeSpec := { name := "treeOrders", fn := fun _ => fun
  | [d1, d2] => { results := [.lit (.bool true)], args := [d1, d2] }
  | _ => none }
def treeOrdersRow : OpenClaim := { program := "ytbipdjmdacelkaagreat", sum := "b5b0dc9a5d7d34c38d15122945371f8a3c38ee1e10b3aaf254ae00ffcf54b2b9", func := "dunnage/dunnagelaw17.TreeOrders", spec := "treeOrders", inPlace := ["slices.overlaps[string]", "slices.overlaps[dunnage/api.Ref]", "slices.overlaps[int]"], unfollowed := true, recurses := true, apart := false }
def TreeOrdersSaid : Prop := treeOrdersRow.holds Tryz.pinned (OpenSpec.ofChange treeOrdersSpec)

/-- ITS FALSE NEIGHBOUR: 'it returns false'. Refute it at one input. -/
def treeOrdersWrong : ChangeSpec := { name := "treeOrders", fn := fun _ => fun
  | [d1, d2] => { results := [.lit (.bool false)], args := [d1, d2] }
  | _ => none }
def TreeOrdersWrongFalsely : Prop := treeOrdersRow.holds Tryz.pinned (OpenSpec.ofChange treeOrdersWrong)

/-- 'dunnagelaw18.CursorWalks': WHATEVER THE INPUT: true; the input reads as it did. -/
def cursorWalksSpec : ChangeSpec := { name := "cursorWalks", fn := fun _ => fun
  | [d1, d2, d3] => { results := [.lit (.bool true)], args := [d1, d2, d3] }
  | _ => none }
def cursorWalksRow : OpenClaim := { program := "ytbipdjmdacelkaagreat", sum := "b5b0dc9a5d7d34c38d15122945371f8a3c38ee1e10b3aaf254ae00ffcf54b2b9", func := "dunnage/dunnagelaw18.CursorWalks", spec := "cursorWalks", inPlace := ["slices.overlaps[string]", "slices.overlaps[dunnage/api.Ref]", "slices.overlaps[int]", "internal/abi.NoEscape", "internal/bytealg.MakeNoZero"], unfollowed := true, recurses := true, apart := false }
def CursorWalksSaid : Prop := cursorWalksRow.holds Tryz.pinned (OpenSpec.ofChange cursorWalksSpec)

/-- ITS FALSE NEIGHBOUR: 'it returns false'. Refute it at one input. -/
def cursorWalksWrong : ChangeSpec := { name := "cursorWalks", fn := fun _ => fun
  | [d1, d2, d3] => { results := [.lit (.bool false)], args := [d1, d2, d3] }
  | _ => none }
def CursorWalksWrongFalsely : Prop := cursorWalksRow.holds Tryz.pinned (OpenSpec.ofChange cursorWalksWrong)

/-- 'dunnagelaw18.CursorBack': WHATEVER THE INPUT: true; the input reads as it did. -/
def cursorBackSpec : ChangeSpec := { name := "cursorBack", fn := fun _ => fun
  | [d1, d2, d3, d4] => { results := [.lit (.bool true)], args := [d1, d2, d3, d4] }
  | _ => none }
def cursorBackRow : OpenClaim := { program := "ytbipdjmdacelkaagreat", sum := "b5b0dc9a5d7d34c38d15122945371f8a3c38ee1e10b3aaf254ae00ffcf54b2b9", func := "dunnage/dunnagelaw18.CursorBack", spec := "cursorBack", inPlace := ["slices.overlaps[string]", "slices.overlaps[dunnage/api.Ref]", "slices.overlaps[int]", "internal/abi.NoEscape", "internal/bytealg.MakeNoZero"], unfollowed := true, recurses := true, apart := false }
def CursorBackSaid : Prop := cursorBackRow.holds Tryz.pinned (OpenSpec.ofChange cursorBackSpec)

/-- ITS FALSE NEIGHBOUR: 'it returns false'. Refute it at one input. -/
def cursorBackWrong : ChangeSpec := { name := "cursorBack", fn := fun _ => fun
  | [d1, d2, d3, d4] => { results := [.lit (.bool false)], args := [d1, d2, d3, d4] }
  | _ => none }
def CursorBackWrongFalsely : Prop := cursorBackRow.holds Tryz.pinned (OpenSpec.ofChange cursorBackWrong)

/-- 'dunnagelaw17.TreeApart': WHATEVER THE INPUT: true; the input reads as it did. -/
def treeApartSpec : ChangeSpec := { name := "treeApart", fn := fun _ => fun
  | [d1, d2, d3, d4] => { results := [.lit (.bool true)], args := [d1, d2, d3, d4] }
  | _ => none }
def treeApartRow : OpenClaim := { program := "ytbipdjmdacelkaagreat", sum := "b5b0dc9a5d7d34c38d15122945371f8a3c38ee1e10b3aaf254ae00ffcf54b2b9", func := "dunnage/dunnagelaw17.TreeApart", spec := "treeApart", inPlace := ["slices.overlaps[string]", "slices.overlaps[dunnage/api.Ref]", "slices.overlaps[int]"], unfollowed := true, recurses := true, apart := false }
def TreeApartSaid : Prop := treeApartRow.holds Tryz.pinned (OpenSpec.ofChange treeApartSpec)

/-- ITS FALSE NEIGHBOUR: 'it returns false'. Refute it at one input. -/
def treeApartWrong : ChangeSpec := { name := "treeApart", fn := fun _ => fun
  | [d1, d2, d3, d4] => { results := [.lit (.bool false)], args := [d1, d2, d3, d4] }
  | _ => none }
def TreeApartWrongFalsely : Prop := treeApartRow.holds Tryz.pinned (OpenSpec.ofChange treeApartWrong)

/-- 'dunnagelaw18.CursorNil': WHATEVER THE INPUT: true; the input reads as it did. -/
def cursorNilSpec : ChangeSpec := { name := "cursorNil", fn := fun _ => fun
  | [d1, d2] => { results := [.lit (.bool true)], args := [d1, d2] }
  | _ => none }
def cursorNilRow : OpenClaim := { program := "ytbipdjmdacelkaagreat", sum := "b5b0dc9a5d7d34c38d15122945371f8a3c38ee1e10b3aaf254ae00ffcf54b2b9", func := "dunnage/dunnagelaw18.CursorNil", spec := "cursorNil", inPlace := ["slices.overlaps[string]", "slices.overlaps[dunnage/api.Ref]", "slices.overlaps[int]", "internal/abi.NoEscape", "internal/bytealg.MakeNoZero"], unfollowed := true, recurses := true, apart := false }
def CursorNilSaid : Prop := cursorNilRow.holds Tryz.pinned (OpenSpec.ofChange cursorNilSpec)

/-- ITS FALSE NEIGHBOUR: 'it returns false'. Refute it at one input. -/
def cursorNilWrong : ChangeSpec := { name := "cursorNil", fn := fun _ => fun
  | [d1, d2] => { results := [.lit (.bool false)], args := [d1, d2] }
  | _ => none }
def CursorNilWrongFalsely : Prop := cursorNilRow.holds Tryz.pinned (OpenSpec.ofChange cursorNilWrong)

/-- 'dunnagelaw18.CursorPlays': WHATEVER THE INPUT: true; the input reads as it did. -/
def cursorPlaysSpec : ChangeSpec := { name := "cursorPlays", fn := fun _ => fun
  | [d1, d2, d3, d4, d5] => { results := [.lit (.bool true)], args := [d1, d2, d3, d4, d5] }
  | _ => none }
def cursorPlaysRow : OpenClaim := { program := "ytbipdjmdacelkaagreat", sum := "b5b0dc9a5d7d34c38d15122945371f8a3c38ee1e10b3aaf254ae00ffcf54b2b9", func := "dunnage/dunnagelaw18.CursorPlays", spec := "cursorPlays", inPlace := ["slices.overlaps[string]", "slices.overlaps[dunnage/api.Ref]", "slices.overlaps[int]", "internal/abi.NoEscape", "internal/bytealg.MakeNoZero"], unfollowed := true, recurses := true, apart := false }
def CursorPlaysSaid : Prop := cursorPlaysRow.holds Tryz.pinned (OpenSpec.ofChange cursorPlaysSpec)

/-- ITS FALSE NEIGHBOUR: 'it returns false'. Refute it at one input. -/
def cursorPlaysWrong : ChangeSpec := { name := "cursorPlays", fn := fun _ => fun
  | [d1, d2, d3, d4, d5] => { results := [.lit (.bool false)], args := [d1, d2, d3, d4, d5] }
  | _ => none }
def CursorPlaysWrongFalsely : Prop := cursorPlaysRow.holds Tryz.pinned (OpenSpec.ofChange cursorPlaysWrong)

/-- 'dunnagelaw18.CursorGone': WHATEVER THE INPUT: true; the input reads as it did. -/
def cursorGoneSpec : ChangeSpec := { name := "cursorGone", fn := fun _ => fun
  | [d1, d2, d3] => { results := [.lit (.bool true)], args := [d1, d2, d3] }
  | _ => none }
def cursorGoneRow : OpenClaim := { program := "ytbipdjmdacelkaagreat", sum := "b5b0dc9a5d7d34c38d15122945371f8a3c38ee1e10b3aaf254ae00ffcf54b2b9", func := "dunnage/dunnagelaw18.CursorGone", spec := "cursorGone", inPlace := ["slices.overlaps[string]", "slices.overlaps[dunnage/api.Ref]", "slices.overlaps[int]", "internal/abi.NoEscape", "internal/bytealg.MakeNoZero"], unfollowed := true, recurses := true, apart := false }
def CursorGoneSaid : Prop := cursorGoneRow.holds Tryz.pinned (OpenSpec.ofChange cursorGoneSpec)

/-- ITS FALSE NEIGHBOUR: 'it returns false'. Refute it at one input. -/
def cursorGoneWrong : ChangeSpec := { name := "cursorGone", fn := fun _ => fun
  | [d1, d2, d3] => { results := [.lit (.bool false)], args := [d1, d2, d3] }
  | _ => none }
def CursorGoneWrongFalsely : Prop := cursorGoneRow.holds Tryz.pinned (OpenSpec.ofChange cursorGoneWrong)

/-- 'dunnagelaw17.TreeRoom': WHATEVER THE INPUT: true; the input reads as it did. -/
def treeRoomSpec : ChangeSpec := { name := "treeRoom", fn := fun _ => fun
  | [d1, d2, d3] => { results := [.lit (.bool true)], args := [d1, d2, d3] }
  | _ => none }
def treeRoomRow : OpenClaim := { program := "ytbipdjmdacelkaagreat", sum := "b5b0dc9a5d7d34c38d15122945371f8a3c38ee1e10b3aaf254ae00ffcf54b2b9", func := "dunnage/dunnagelaw17.TreeRoom", spec := "treeRoom", inPlace := ["slices.overlaps[string]", "slices.overlaps[dunnage/api.Ref]", "slices.overlaps[int]"], unfollowed := true, recurses := true, apart := false }
def TreeRoomSaid : Prop := treeRoomRow.holds Tryz.pinned (OpenSpec.ofChange treeRoomSpec)

/-- ITS FALSE NEIGHBOUR: 'it returns false'. Refute it at one input. -/
def treeRoomWrong : ChangeSpec := { name := "treeRoom", fn := fun _ => fun
  | [d1, d2, d3] => { results := [.lit (.bool false)], args := [d1, d2, d3] }
  | _ => none }
def TreeRoomWrongFalsely : Prop := treeRoomRow.holds Tryz.pinned (OpenSpec.ofChange treeRoomWrong)

/-- 'dunnagelaw17.TreePlays': WHATEVER THE INPUT: true; the input reads as it did. -/
def treePlaysSpec : ChangeSpec := { name := "treePlays", fn := fun _ => fun
  | [d1, d2] => { results := [.lit (.bool true)], args := [d1, d2] }
  | _ => none }
def treePlaysRow : OpenClaim := { program := "ytbipdjmdacelkaagreat", sum := "b5b0dc9a5d7d34c38d15122945371f8a3c38ee1e10b3aaf254ae00ffcf54b2b9", func := "dunnage/dunnagelaw17.TreePlays", spec := "treePlays", inPlace := ["slices.overlaps[string]", "slices.overlaps[dunnage/api.Ref]", "slices.overlaps[int]"], unfollowed := true, recurses := true, apart := false }
def TreePlaysSaid : Prop := treePlaysRow.holds Tryz.pinned (OpenSpec.ofChange treePlaysSpec)

/-- ITS FALSE NEIGHBOUR: 'it returns false'. Refute it at one input. -/
def treePlaysWrong : ChangeSpec := { name := "treePlays", fn := fun _ => fun
  | [d1, d2] => { results := [.lit (.bool false)], args := [d1, d2] }
  | _ => none }
def TreePlaysWrongFalsely : Prop := treePlaysRow.holds Tryz.pinned (OpenSpec.ofChange treePlaysWrong)

/-- 'dunnagelaw17.TreeLong': WHATEVER THE INPUT: true; the input reads as it did. -/
def treeLongSpec : ChangeSpec := { name := "treeLong", fn := fun _ => fun
  | [d1, d2, d3] => { results := [.lit (.bool true)], args := [d1, d2, d3] }
  | _ => none }
def treeLongRow : OpenClaim := { program := "ytbipdjmdacelkaagreat", sum := "b5b0dc9a5d7d34c38d15122945371f8a3c38ee1e10b3aaf254ae00ffcf54b2b9", func := "dunnage/dunnagelaw17.TreeLong", spec := "treeLong", inPlace := ["slices.overlaps[string]", "slices.overlaps[dunnage/api.Ref]", "slices.overlaps[int]"], unfollowed := true, recurses := true, apart := false }
def TreeLongSaid : Prop := treeLongRow.holds Tryz.pinned (OpenSpec.ofChange treeLongSpec)

/-- ITS FALSE NEIGHBOUR: 'it returns false'. Refute it at one input. -/
def treeLongWrong : ChangeSpec := { name := "treeLong", fn := fun _ => fun
  | [d1, d2, d3] => { results := [.lit (.bool false)], args := [d1, d2, d3] }
  | _ => none }
def TreeLongWrongFalsely : Prop := treeLongRow.holds Tryz.pinned (OpenSpec.ofChange treeLongWrong)

/-- 'dunnagelaw17.TreePacks': WHATEVER THE INPUT: true; the input reads as it did. -/
def treePacksSpec : ChangeSpec := { name := "treePacks", fn := fun _ => fun
  | [d1, d2, d3] => { results := [.lit (.bool true)], args := [d1, d2, d3] }
  | _ => none }
def treePacksRow : OpenClaim := { program := "ytbipdjmdacelkaagreat", sum := "b5b0dc9a5d7d34c38d15122945371f8a3c38ee1e10b3aaf254ae00ffcf54b2b9", func := "dunnage/dunnagelaw17.TreePacks", spec := "treePacks", inPlace := ["slices.overlaps[string]", "slices.overlaps[dunnage/api.Ref]", "slices.overlaps[int]"], unfollowed := true, recurses := true, apart := false }
def TreePacksSaid : Prop := treePacksRow.holds Tryz.pinned (OpenSpec.ofChange treePacksSpec)

/-- ITS FALSE NEIGHBOUR: 'it returns false'. Refute it at one input. -/
def treePacksWrong : ChangeSpec := { name := "treePacks", fn := fun _ => fun
  | [d1, d2, d3] => { results := [.lit (.bool false)], args := [d1, d2, d3] }
  | _ => none }
def TreePacksWrongFalsely : Prop := treePacksRow.holds Tryz.pinned (OpenSpec.ofChange treePacksWrong)

/-- 'dunnagelaw17.TreePatches': WHATEVER THE INPUT: true; the input reads as it did. -/
def treePatchesSpec : ChangeSpec := { name := "treePatches", fn := fun _ => fun
  | [d1, d2, d3] => { results := [.lit (.bool true)], args := [d1, d2, d3] }
  | _ => none }
def treePatchesRow : OpenClaim := { program := "ytbipdjmdacelkaagreat", sum := "b5b0dc9a5d7d34c38d15122945371f8a3c38ee1e10b3aaf254ae00ffcf54b2b9", func := "dunnage/dunnagelaw17.TreePatches", spec := "treePatches", inPlace := ["slices.overlaps[string]", "slices.overlaps[dunnage/api.Ref]", "slices.overlaps[int]"], unfollowed := true, recurses := true, apart := false }
def TreePatchesSaid : Prop := treePatchesRow.holds Tryz.pinned (OpenSpec.ofChange treePatchesSpec)

/-- ITS FALSE NEIGHBOUR: 'it returns false'. Refute it at one input. -/
def treePatchesWrong : ChangeSpec := { name := "treePatches", fn := fun _ => fun
  | [d1, d2, d3] => { results := [.lit (.bool false)], args := [d1, d2, d3] }
  | _ => none }
def TreePatchesWrongFalsely : Prop := treePatchesRow.holds Tryz.pinned (OpenSpec.ofChange treePatchesWrong)

/-- 'dunnagelaw17.TreeNil': WHATEVER THE INPUT: true; the input reads as it did. -/
def treeNilSpec : ChangeSpec := { name := "treeNil", fn := fun _ => fun
  | [d1, d2, d3] => { results := [.lit (.bool true)], args := [d1, d2, d3] }
  | _ => none }
def treeNilRow : OpenClaim := { program := "ytbipdjmdacelkaagreat", sum := "b5b0dc9a5d7d34c38d15122945371f8a3c38ee1e10b3aaf254ae00ffcf54b2b9", func := "dunnage/dunnagelaw17.TreeNil", spec := "treeNil", inPlace := ["slices.overlaps[string]", "slices.overlaps[dunnage/api.Ref]", "slices.overlaps[int]"], unfollowed := true, recurses := true, apart := false }
def TreeNilSaid : Prop := treeNilRow.holds Tryz.pinned (OpenSpec.ofChange treeNilSpec)

/-- ITS FALSE NEIGHBOUR: 'it returns false'. Refute it at one input. -/
def treeNilWrong : ChangeSpec := { name := "treeNil", fn := fun _ => fun
  | [d1, d2, d3] => { results := [.lit (.bool false)], args := [d1, d2, d3] }
  | _ => none }
def TreeNilWrongFalsely : Prop := treeNilRow.holds Tryz.pinned (OpenSpec.ofChange treeNilWrong)

/- THE SECOND FORM. 'bulk': how many values and letters a reading holds, each counted each time it is reached (what is shared counts as often as it is met; a slice's spare places count too). A statement '..UptoSaid' is the law's where the arguments, and the package variables that the reading takes, are together of bulk at most 1048576: NARROWER than '..Said'. Prove '..Said' where nothing that the law and all that it calls make is longer than what came in: it says more and counts as full. Else prove '..UptoSaid'. A law counts once. -/
mutual
def uptoBulk {H : Type} : DataW H → Nat
  | .lit (.string bytes) => bytes.length + 1
  | .lit _ => 1
  | .nil => 1
  | .ptr d => uptoBulk d + 1
  | .slice elems spare => uptoBulkAll elems + uptoBulkAll spare + 1
  | .agg parts => uptoBulkAll parts + 1
  | .iface _ d => uptoBulk d + 1
  | .map entries => uptoBulkEntries entries + 1
  | .held _ => 1
def uptoBulkAll {H : Type} : List (DataW H) → Nat
  | [] => 0
  | d :: r => uptoBulk d + uptoBulkAll r
def uptoBulkEntries {H : Type} : List (Lit × DataW H) → Nat
  | [] => 0
  | x :: r => uptoBulkEntry x + uptoBulkEntries r
def uptoBulkEntry {H : Type} : Lit × DataW H → Nat
  | (.string bytes, d) => bytes.length + uptoBulk d + 1
  | (_, d) => uptoBulk d + 1
 end
def uptoSmall : (H : Type) → List (DataW H) → Bool := fun _ ds => decide (uptoBulkAll ds ≤ 1048576)
def OpenSpec.upto (s : _root_.Go.ChangeSpec) : _root_.Go.OpenSpec := { _root_.Go.OpenSpec.ofChange s with cond := some uptoSmall }

/-- 'dunnagelaw17.TreeNeighbours', WHERE WHAT IT READS IS OF BULK AT MOST 1048576: true; the input reads as it did. -/
def treeNeighboursUptoRow : OpenClaim := { program := "ytbipdjmdacelkaagreat", sum := "b5b0dc9a5d7d34c38d15122945371f8a3c38ee1e10b3aaf254ae00ffcf54b2b9", func := "dunnage/dunnagelaw17.TreeNeighbours", spec := "treeNeighbours", inPlace := ["slices.overlaps[string]", "slices.overlaps[dunnage/api.Ref]", "slices.overlaps[int]"], unfollowed := true, recurses := true, apart := false, narrowed := true }
def TreeNeighboursUptoSaid : Prop := treeNeighboursUptoRow.holds Tryz.pinned (OpenSpec.upto treeNeighboursSpec)

/-- 'dunnagelaw17.TreeCopies', WHERE WHAT IT READS IS OF BULK AT MOST 1048576: true; the input reads as it did. -/
def treeCopiesUptoRow : OpenClaim := { program := "ytbipdjmdacelkaagreat", sum := "b5b0dc9a5d7d34c38d15122945371f8a3c38ee1e10b3aaf254ae00ffcf54b2b9", func := "dunnage/dunnagelaw17.TreeCopies", spec := "treeCopies", inPlace := ["slices.overlaps[string]", "slices.overlaps[dunnage/api.Ref]", "slices.overlaps[int]"], unfollowed := true, recurses := true, apart := false, narrowed := true }
def TreeCopiesUptoSaid : Prop := treeCopiesUptoRow.holds Tryz.pinned (OpenSpec.upto treeCopiesSpec)

/-- 'dunnagelaw17.TreeOrders', WHERE WHAT IT READS IS OF BULK AT MOST 1048576: true; the input reads as it did. -/
def treeOrdersUptoRow : OpenClaim := { program := "ytbipdjmdacelkaagreat", sum := "b5b0dc9a5d7d34c38d15122945371f8a3c38ee1e10b3aaf254ae00ffcf54b2b9", func := "dunnage/dunnagelaw17.TreeOrders", spec := "treeOrders", inPlace := ["slices.overlaps[string]", "slices.overlaps[dunnage/api.Ref]", "slices.overlaps[int]"], unfollowed := true, recurses := true, apart := false, narrowed := true }
def TreeOrdersUptoSaid : Prop := treeOrdersUptoRow.holds Tryz.pinned (OpenSpec.upto treeOrdersSpec)

/-- 'dunnagelaw18.CursorWalks', WHERE WHAT IT READS IS OF BULK AT MOST 1048576: true; the input reads as it did. -/
def cursorWalksUptoRow : OpenClaim := { program := "ytbipdjmdacelkaagreat", sum := "b5b0dc9a5d7d34c38d15122945371f8a3c38ee1e10b3aaf254ae00ffcf54b2b9", func := "dunnage/dunnagelaw18.CursorWalks", spec := "cursorWalks", inPlace := ["slices.overlaps[string]", "slices.overlaps[dunnage/api.Ref]", "slices.overlaps[int]", "internal/abi.NoEscape", "internal/bytealg.MakeNoZero"], unfollowed := true, recurses := true, apart := false, narrowed := true }
def CursorWalksUptoSaid : Prop := cursorWalksUptoRow.holds Tryz.pinned (OpenSpec.upto cursorWalksSpec)

/-- 'dunnagelaw18.CursorBack', WHERE WHAT IT READS IS OF BULK AT MOST 1048576: true; the input reads as it did. -/
def cursorBackUptoRow : OpenClaim := { program := "ytbipdjmdacelkaagreat", sum := "b5b0dc9a5d7d34c38d15122945371f8a3c38ee1e10b3aaf254ae00ffcf54b2b9", func := "dunnage/dunnagelaw18.CursorBack", spec := "cursorBack", inPlace := ["slices.overlaps[string]", "slices.overlaps[dunnage/api.Ref]", "slices.overlaps[int]", "internal/abi.NoEscape", "internal/bytealg.MakeNoZero"], unfollowed := true, recurses := true, apart := false, narrowed := true }
def CursorBackUptoSaid : Prop := cursorBackUptoRow.holds Tryz.pinned (OpenSpec.upto cursorBackSpec)

/-- 'dunnagelaw17.TreeApart', WHERE WHAT IT READS IS OF BULK AT MOST 1048576: true; the input reads as it did. -/
def treeApartUptoRow : OpenClaim := { program := "ytbipdjmdacelkaagreat", sum := "b5b0dc9a5d7d34c38d15122945371f8a3c38ee1e10b3aaf254ae00ffcf54b2b9", func := "dunnage/dunnagelaw17.TreeApart", spec := "treeApart", inPlace := ["slices.overlaps[string]", "slices.overlaps[dunnage/api.Ref]", "slices.overlaps[int]"], unfollowed := true, recurses := true, apart := false, narrowed := true }
def TreeApartUptoSaid : Prop := treeApartUptoRow.holds Tryz.pinned (OpenSpec.upto treeApartSpec)

/-- 'dunnagelaw18.CursorNil', WHERE WHAT IT READS IS OF BULK AT MOST 1048576: true; the input reads as it did. -/
def cursorNilUptoRow : OpenClaim := { program := "ytbipdjmdacelkaagreat", sum := "b5b0dc9a5d7d34c38d15122945371f8a3c38ee1e10b3aaf254ae00ffcf54b2b9", func := "dunnage/dunnagelaw18.CursorNil", spec := "cursorNil", inPlace := ["slices.overlaps[string]", "slices.overlaps[dunnage/api.Ref]", "slices.overlaps[int]", "internal/abi.NoEscape", "internal/bytealg.MakeNoZero"], unfollowed := true, recurses := true, apart := false, narrowed := true }
def CursorNilUptoSaid : Prop := cursorNilUptoRow.holds Tryz.pinned (OpenSpec.upto cursorNilSpec)

/-- 'dunnagelaw18.CursorPlays', WHERE WHAT IT READS IS OF BULK AT MOST 1048576: true; the input reads as it did. -/
def cursorPlaysUptoRow : OpenClaim := { program := "ytbipdjmdacelkaagreat", sum := "b5b0dc9a5d7d34c38d15122945371f8a3c38ee1e10b3aaf254ae00ffcf54b2b9", func := "dunnage/dunnagelaw18.CursorPlays", spec := "cursorPlays", inPlace := ["slices.overlaps[string]", "slices.overlaps[dunnage/api.Ref]", "slices.overlaps[int]", "internal/abi.NoEscape", "internal/bytealg.MakeNoZero"], unfollowed := true, recurses := true, apart := false, narrowed := true }
def CursorPlaysUptoSaid : Prop := cursorPlaysUptoRow.holds Tryz.pinned (OpenSpec.upto cursorPlaysSpec)

/-- 'dunnagelaw18.CursorGone', WHERE WHAT IT READS IS OF BULK AT MOST 1048576: true; the input reads as it did. -/
def cursorGoneUptoRow : OpenClaim := { program := "ytbipdjmdacelkaagreat", sum := "b5b0dc9a5d7d34c38d15122945371f8a3c38ee1e10b3aaf254ae00ffcf54b2b9", func := "dunnage/dunnagelaw18.CursorGone", spec := "cursorGone", inPlace := ["slices.overlaps[string]", "slices.overlaps[dunnage/api.Ref]", "slices.overlaps[int]", "internal/abi.NoEscape", "internal/bytealg.MakeNoZero"], unfollowed := true, recurses := true, apart := false, narrowed := true }
def CursorGoneUptoSaid : Prop := cursorGoneUptoRow.holds Tryz.pinned (OpenSpec.upto cursorGoneSpec)

/-- 'dunnagelaw17.TreeRoom', WHERE WHAT IT READS IS OF BULK AT MOST 1048576: true; the input reads as it did. -/
def treeRoomUptoRow : OpenClaim := { program := "ytbipdjmdacelkaagreat", sum := "b5b0dc9a5d7d34c38d15122945371f8a3c38ee1e10b3aaf254ae00ffcf54b2b9", func := "dunnage/dunnagelaw17.TreeRoom", spec := "treeRoom", inPlace := ["slices.overlaps[string]", "slices.overlaps[dunnage/api.Ref]", "slices.overlaps[int]"], unfollowed := true, recurses := true, apart := false, narrowed := true }
def TreeRoomUptoSaid : Prop := treeRoomUptoRow.holds Tryz.pinned (OpenSpec.upto treeRoomSpec)

/-- 'dunnagelaw17.TreePlays', WHERE WHAT IT READS IS OF BULK AT MOST 1048576: true; the input reads as it did. -/
def treePlaysUptoRow : OpenClaim := { program := "ytbipdjmdacelkaagreat", sum := "b5b0dc9a5d7d34c38d15122945371f8a3c38ee1e10b3aaf254ae00ffcf54b2b9", func := "dunnage/dunnagelaw17.TreePlays", spec := "treePlays", inPlace := ["slices.overlaps[string]", "slices.overlaps[dunnage/api.Ref]", "slices.overlaps[int]"], unfollowed := true, recurses := true, apart := false, narrowed := true }
def TreePlaysUptoSaid : Prop := treePlaysUptoRow.holds Tryz.pinned (OpenSpec.upto treePlaysSpec)

/-- 'dunnagelaw17.TreeLong', WHERE WHAT IT READS IS OF BULK AT MOST 1048576: true; the input reads as it did. -/
def treeLongUptoRow : OpenClaim := { program := "ytbipdjmdacelkaagreat", sum := "b5b0dc9a5d7d34c38d15122945371f8a3c38ee1e10b3aaf254ae00ffcf54b2b9", func := "dunnage/dunnagelaw17.TreeLong", spec := "treeLong", inPlace := ["slices.overlaps[string]", "slices.overlaps[dunnage/api.Ref]", "slices.overlaps[int]"], unfollowed := true, recurses := true, apart := false, narrowed := true }
def TreeLongUptoSaid : Prop := treeLongUptoRow.holds Tryz.pinned (OpenSpec.upto treeLongSpec)

/-- 'dunnagelaw17.TreePacks', WHERE WHAT IT READS IS OF BULK AT MOST 1048576: true; the input reads as it did. -/
def treePacksUptoRow : OpenClaim := { program := "ytbipdjmdacelkaagreat", sum := "b5b0dc9a5d7d34c38d15122945371f8a3c38ee1e10b3aaf254ae00ffcf54b2b9", func := "dunnage/dunnagelaw17.TreePacks", spec := "treePacks", inPlace := ["slices.overlaps[string]", "slices.overlaps[dunnage/api.Ref]", "slices.overlaps[int]"], unfollowed := true, recurses := true, apart := false, narrowed := true }
def TreePacksUptoSaid : Prop := treePacksUptoRow.holds Tryz.pinned (OpenSpec.upto treePacksSpec)

/-- 'dunnagelaw17.TreePatches', WHERE WHAT IT READS IS OF BULK AT MOST 1048576: true; the input reads as it did. -/
def treePatchesUptoRow : OpenClaim := { program := "ytbipdjmdacelkaagreat", sum := "b5b0dc9a5d7d34c38d15122945371f8a3c38ee1e10b3aaf254ae00ffcf54b2b9", func := "dunnage/dunnagelaw17.TreePatches", spec := "treePatches", inPlace := ["slices.overlaps[string]", "slices.overlaps[dunnage/api.Ref]", "slices.overlaps[int]"], unfollowed := true, recurses := true, apart := false, narrowed := true }
def TreePatchesUptoSaid : Prop := treePatchesUptoRow.holds Tryz.pinned (OpenSpec.upto treePatchesSpec)

/-- 'dunnagelaw17.TreeNil', WHERE WHAT IT READS IS OF BULK AT MOST 1048576: true; the input reads as it did. -/
def treeNilUptoRow : OpenClaim := { program := "ytbipdjmdacelkaagreat", sum := "b5b0dc9a5d7d34c38d15122945371f8a3c38ee1e10b3aaf254ae00ffcf54b2b9", func := "dunnage/dunnagelaw17.TreeNil", spec := "treeNil", inPlace := ["slices.overlaps[string]", "slices.overlaps[dunnage/api.Ref]", "slices.overlaps[int]"], unfollowed := true, recurses := true, apart := false, narrowed := true }
def TreeNilUptoSaid : Prop := treeNilUptoRow.holds Tryz.pinned (OpenSpec.upto treeNilSpec)

end Rows
end Go.Proofs.YtbipdjmdacelkaaGreat
