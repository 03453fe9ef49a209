/-
  No cell of these rows narrows 'for every input' (looked for: loops, veiled, ifaces, maps, wideKeys, modest, calm, conditions, laid).
  DERIVED. THE GIVEN ROWS OF THIS SEAT. 10 by the template 'for every input the law returns true; each argument reads behind the call as it read before'; 0 by the template 'total and deterministic' (their statements: YtfgjehecjgebdaaGreatTotals.lean).
  GIVEN WITH THE SEED: the statements are not yours to turn. If you find one false, say at which input.
  Laid BY PROGRAM, IN A SANDBOX (cutbox-rows.mjs): the forced cells as the released guide's own fill.sh prints them over the translation 93ecbd7e01388e0a… (all of the seat's roots in one cut). By AI agents, Wed Nov 11 2026. No macro, syntax, notation, axiom, sorry.
-/
import Derived.Test.YtfgjehecjgebdaaGreatChecked
import GoSem.Claim
import GoSem.ClaimJoined
import GoSem.ClaimMapViews
import Derived.JoinedTies
import Derived.KernelRfl
namespace Go.Proofs.YtfgjehecjgebdaaGreat
/- THE CELL 'sum', in the pinned program and in every row, IS THE sha256 OF THE DUMP (.gsa) THAT YtfgjehecjgebdaaGreatProg.lean LOADS. Nothing in Lean hashes anything: it is a label: what it is worth is what the hold of that sum in a sandbox is worth. -/
noncomputable def Tryz.pinned : Pinned := { name := "ytfgjehecjgebdaagreat", sum := "93ecbd7e01388e0ae37652c33547dd8e190cbee1a6ad1230cd83fed47ba8b050", checked := Tryz.checked }
namespace Rows
def none {H : Type} : Left H := { results := [], args := [] }

/-- 'armoirelaw07.PagesPlays': WHATEVER THE INPUT: true; the input reads as it did. -/
def pagesPlaysSpec : ChangeSpec := { name := "pagesPlays", fn := fun _ => fun
  | [d] => { results := [.lit (.bool true)], args := [d] }
  | _ => none }
def pagesPlaysRow : OpenClaim := { program := "ytfgjehecjgebdaagreat", sum := "93ecbd7e01388e0ae37652c33547dd8e190cbee1a6ad1230cd83fed47ba8b050", func := "armoire/armoirelaw07.PagesPlays", spec := "pagesPlays", unfollowed := true, recurses := true, apart := false }
def PagesPlaysSaid : Prop := pagesPlaysRow.holds Tryz.pinned (OpenSpec.ofChange pagesPlaysSpec)

/-- ITS FALSE NEIGHBOUR: 'it returns false'. Refute it at one input. -/
def pagesPlaysWrong : ChangeSpec := { name := "pagesPlays", fn := fun _ => fun
  | [d] => { results := [.lit (.bool false)], args := [d] }
  | _ => none }
def PagesPlaysWrongFalsely : Prop := pagesPlaysRow.holds Tryz.pinned (OpenSpec.ofChange pagesPlaysWrong)

/-- 'armoirelaw09.TreeBad': WHATEVER THE INPUT: true; the input reads as it did. -/
def treeBadSpec : ChangeSpec := { name := "treeBad", fn := fun _ => fun
  | [d1, d2, d3] => { results := [.lit (.bool true)], args := [d1, d2, d3] }
  | _ => none }
def treeBadRow : OpenClaim := { program := "ytfgjehecjgebdaagreat", sum := "93ecbd7e01388e0ae37652c33547dd8e190cbee1a6ad1230cd83fed47ba8b050", func := "armoire/armoirelaw09.TreeBad", spec := "treeBad", inPlace := ["slices.overlaps[string]", "slices.overlaps[int]"], unfollowed := true, recurses := true, apart := false }
def TreeBadSaid : Prop := treeBadRow.holds Tryz.pinned (OpenSpec.ofChange treeBadSpec)

/-- ITS FALSE NEIGHBOUR: 'it returns false'. Refute it at one input. -/
def treeBadWrong : ChangeSpec := { name := "treeBad", fn := fun _ => fun
  | [d1, d2, d3] => { results := [.lit (.bool false)], args := [d1, d2, d3] }
  | _ => none }
def TreeBadWrongFalsely : Prop := treeBadRow.holds Tryz.pinned (OpenSpec.ofChange treeBadWrong)

/-- 'armoirelaw09.TreeFull': WHATEVER THE INPUT: true; the input reads as it did. -/
def treeFullSpec : ChangeSpec := { name := "treeFull", fn := fun _ => fun
  | [d1, d2] => { results := [.lit (.bool true)], args := [d1, d2] }
  | _ => none }
def treeFullRow : OpenClaim := { program := "ytfgjehecjgebdaagreat", sum := "93ecbd7e01388e0ae37652c33547dd8e190cbee1a6ad1230cd83fed47ba8b050", func := "armoire/armoirelaw09.TreeFull", spec := "treeFull", inPlace := ["slices.overlaps[string]", "slices.overlaps[int]"], unfollowed := true, recurses := true, apart := false }
def TreeFullSaid : Prop := treeFullRow.holds Tryz.pinned (OpenSpec.ofChange treeFullSpec)

/-- ITS FALSE NEIGHBOUR: 'it returns false'. Refute it at one input. -/
def treeFullWrong : ChangeSpec := { name := "treeFull", fn := fun _ => fun
  | [d1, d2] => { results := [.lit (.bool false)], args := [d1, d2] }
  | _ => none }
def TreeFullWrongFalsely : Prop := treeFullRow.holds Tryz.pinned (OpenSpec.ofChange treeFullWrong)

/-- 'armoirelaw09.TreeSame': WHATEVER THE INPUT: true; the input reads as it did. -/
def treeSameSpec : ChangeSpec := { name := "treeSame", fn := fun _ => fun
  | [d1, d2] => { results := [.lit (.bool true)], args := [d1, d2] }
  | _ => none }
def treeSameRow : OpenClaim := { program := "ytfgjehecjgebdaagreat", sum := "93ecbd7e01388e0ae37652c33547dd8e190cbee1a6ad1230cd83fed47ba8b050", func := "armoire/armoirelaw09.TreeSame", spec := "treeSame", inPlace := ["slices.overlaps[string]", "slices.overlaps[int]"], unfollowed := true, recurses := true, apart := false }
def TreeSameSaid : Prop := treeSameRow.holds Tryz.pinned (OpenSpec.ofChange treeSameSpec)

/-- ITS FALSE NEIGHBOUR: 'it returns false'. Refute it at one input. -/
def treeSameWrong : ChangeSpec := { name := "treeSame", fn := fun _ => fun
  | [d1, d2] => { results := [.lit (.bool false)], args := [d1, d2] }
  | _ => none }
def TreeSameWrongFalsely : Prop := treeSameRow.holds Tryz.pinned (OpenSpec.ofChange treeSameWrong)

/-- 'armoirelaw09.TreeOld': WHATEVER THE INPUT: true; the input reads as it did. -/
def treeOldSpec : ChangeSpec := { name := "treeOld", fn := fun _ => fun
  | [d1, d2] => { results := [.lit (.bool true)], args := [d1, d2] }
  | _ => none }
def treeOldRow : OpenClaim := { program := "ytfgjehecjgebdaagreat", sum := "93ecbd7e01388e0ae37652c33547dd8e190cbee1a6ad1230cd83fed47ba8b050", func := "armoire/armoirelaw09.TreeOld", spec := "treeOld", inPlace := ["slices.overlaps[string]", "slices.overlaps[int]"], unfollowed := true, recurses := true, apart := false }
def TreeOldSaid : Prop := treeOldRow.holds Tryz.pinned (OpenSpec.ofChange treeOldSpec)

/-- ITS FALSE NEIGHBOUR: 'it returns false'. Refute it at one input. -/
def treeOldWrong : ChangeSpec := { name := "treeOld", fn := fun _ => fun
  | [d1, d2] => { results := [.lit (.bool false)], args := [d1, d2] }
  | _ => none }
def TreeOldWrongFalsely : Prop := treeOldRow.holds Tryz.pinned (OpenSpec.ofChange treeOldWrong)

/-- 'armoirelaw10.CursorAll': WHATEVER THE INPUT: true; the input reads as it did. -/
def cursorAllSpec : ChangeSpec := { name := "cursorAll", fn := fun _ => fun
  | [d1, d2] => { results := [.lit (.bool true)], args := [d1, d2] }
  | _ => none }
def cursorAllRow : OpenClaim := { program := "ytfgjehecjgebdaagreat", sum := "93ecbd7e01388e0ae37652c33547dd8e190cbee1a6ad1230cd83fed47ba8b050", func := "armoire/armoirelaw10.CursorAll", spec := "cursorAll", inPlace := ["slices.overlaps[int]", "slices.overlaps[string]"], unfollowed := true, recurses := true, apart := false }
def CursorAllSaid : Prop := cursorAllRow.holds Tryz.pinned (OpenSpec.ofChange cursorAllSpec)

/-- ITS FALSE NEIGHBOUR: 'it returns false'. Refute it at one input. -/
def cursorAllWrong : ChangeSpec := { name := "cursorAll", fn := fun _ => fun
  | [d1, d2] => { results := [.lit (.bool false)], args := [d1, d2] }
  | _ => none }
def CursorAllWrongFalsely : Prop := cursorAllRow.holds Tryz.pinned (OpenSpec.ofChange cursorAllWrong)

/-- 'armoirelaw10.CursorAbove': WHATEVER THE INPUT: true; the input reads as it did. -/
def cursorAboveSpec : ChangeSpec := { name := "cursorAbove", fn := fun _ => fun
  | [d1, d2] => { results := [.lit (.bool true)], args := [d1, d2] }
  | _ => none }
def cursorAboveRow : OpenClaim := { program := "ytfgjehecjgebdaagreat", sum := "93ecbd7e01388e0ae37652c33547dd8e190cbee1a6ad1230cd83fed47ba8b050", func := "armoire/armoirelaw10.CursorAbove", spec := "cursorAbove", inPlace := ["slices.overlaps[int]", "slices.overlaps[string]"], unfollowed := true, recurses := true, apart := false }
def CursorAboveSaid : Prop := cursorAboveRow.holds Tryz.pinned (OpenSpec.ofChange cursorAboveSpec)

/-- ITS FALSE NEIGHBOUR: 'it returns false'. Refute it at one input. -/
def cursorAboveWrong : ChangeSpec := { name := "cursorAbove", fn := fun _ => fun
  | [d1, d2] => { results := [.lit (.bool false)], args := [d1, d2] }
  | _ => none }
def CursorAboveWrongFalsely : Prop := cursorAboveRow.holds Tryz.pinned (OpenSpec.ofChange cursorAboveWrong)

/-- 'armoirelaw10.CursorRange': WHATEVER THE INPUT: true; the input reads as it did. -/
def cursorRangeSpec : ChangeSpec := { name := "cursorRange", fn := fun _ => fun
  | [d1, d2, d3, d4] => { results := [.lit (.bool true)], args := [d1, d2, d3, d4] }
  | _ => none }
def cursorRangeRow : OpenClaim := { program := "ytfgjehecjgebdaagreat", sum := "93ecbd7e01388e0ae37652c33547dd8e190cbee1a6ad1230cd83fed47ba8b050", func := "armoire/armoirelaw10.CursorRange", spec := "cursorRange", inPlace := ["slices.overlaps[int]", "slices.overlaps[string]"], unfollowed := true, recurses := true, apart := false }
def CursorRangeSaid : Prop := cursorRangeRow.holds Tryz.pinned (OpenSpec.ofChange cursorRangeSpec)

/-- ITS FALSE NEIGHBOUR: 'it returns false'. Refute it at one input. -/
def cursorRangeWrong : ChangeSpec := { name := "cursorRange", fn := fun _ => fun
  | [d1, d2, d3, d4] => { results := [.lit (.bool false)], args := [d1, d2, d3, d4] }
  | _ => none }
def CursorRangeWrongFalsely : Prop := cursorRangeRow.holds Tryz.pinned (OpenSpec.ofChange cursorRangeWrong)

/-- 'armoirelaw10.CursorWipes': WHATEVER THE INPUT: true; the input reads as it did. -/
def cursorWipesSpec : ChangeSpec := { name := "cursorWipes", fn := fun _ => fun
  | [d1, d2] => { results := [.lit (.bool true)], args := [d1, d2] }
  | _ => none }
def cursorWipesRow : OpenClaim := { program := "ytfgjehecjgebdaagreat", sum := "93ecbd7e01388e0ae37652c33547dd8e190cbee1a6ad1230cd83fed47ba8b050", func := "armoire/armoirelaw10.CursorWipes", spec := "cursorWipes", inPlace := ["slices.overlaps[int]", "slices.overlaps[string]"], unfollowed := true, recurses := true, apart := false }
def CursorWipesSaid : Prop := cursorWipesRow.holds Tryz.pinned (OpenSpec.ofChange cursorWipesSpec)

/-- ITS FALSE NEIGHBOUR: 'it returns false'. Refute it at one input. -/
def cursorWipesWrong : ChangeSpec := { name := "cursorWipes", fn := fun _ => fun
  | [d1, d2] => { results := [.lit (.bool false)], args := [d1, d2] }
  | _ => none }
def CursorWipesWrongFalsely : Prop := cursorWipesRow.holds Tryz.pinned (OpenSpec.ofChange cursorWipesWrong)

/-- 'armoirelaw09.TreePlays': WHATEVER THE INPUT: true; the input reads as it did. -/
def treePlaysSpec : ChangeSpec := { name := "treePlays", fn := fun _ => fun
  | [d] => { results := [.lit (.bool true)], args := [d] }
  | _ => none }
def treePlaysRow : OpenClaim := { program := "ytfgjehecjgebdaagreat", sum := "93ecbd7e01388e0ae37652c33547dd8e190cbee1a6ad1230cd83fed47ba8b050", func := "armoire/armoirelaw09.TreePlays", spec := "treePlays", inPlace := ["slices.overlaps[string]", "slices.overlaps[int]"], unfollowed := true, recurses := true, apart := false }
def TreePlaysSaid : Prop := treePlaysRow.holds Tryz.pinned (OpenSpec.ofChange treePlaysSpec)

/-- ITS FALSE NEIGHBOUR: 'it returns false'. Refute it at one input. -/
def treePlaysWrong : ChangeSpec := { name := "treePlays", fn := fun _ => fun
  | [d] => { results := [.lit (.bool false)], args := [d] }
  | _ => none }
def TreePlaysWrongFalsely : Prop := treePlaysRow.holds Tryz.pinned (OpenSpec.ofChange treePlaysWrong)

/- THE SECOND FORM. 'bulk': how many values and letters a reading holds, each counted each time it is reached (what is shared counts as often as it is met; a slice's spare places count too). A statement '..UptoSaid' is the law's where the arguments, and the package variables that the reading takes, are together of bulk at most 1048576: NARROWER than '..Said'. Prove '..Said' where nothing that the law and all that it calls make is longer than what came in: it says more and counts as full. Else prove '..UptoSaid'. A law counts once. -/
mutual
def uptoBulk {H : Type} : DataW H → Nat
  | .lit (.string bytes) => bytes.length + 1
  | .lit _ => 1
  | .nil => 1
  | .ptr d => uptoBulk d + 1
  | .slice elems spare => uptoBulkAll elems + uptoBulkAll spare + 1
  | .agg parts => uptoBulkAll parts + 1
  | .iface _ d => uptoBulk d + 1
  | .map entries => uptoBulkEntries entries + 1
  | .held _ => 1
def uptoBulkAll {H : Type} : List (DataW H) → Nat
  | [] => 0
  | d :: r => uptoBulk d + uptoBulkAll r
def uptoBulkEntries {H : Type} : List (Lit × DataW H) → Nat
  | [] => 0
  | x :: r => uptoBulkEntry x + uptoBulkEntries r
def uptoBulkEntry {H : Type} : Lit × DataW H → Nat
  | (.string bytes, d) => bytes.length + uptoBulk d + 1
  | (_, d) => uptoBulk d + 1
 end
def uptoSmall : (H : Type) → List (DataW H) → Bool := fun _ ds => decide (uptoBulkAll ds ≤ 1048576)
def OpenSpec.upto (s : _root_.Go.ChangeSpec) : _root_.Go.OpenSpec := { _root_.Go.OpenSpec.ofChange s with cond := some uptoSmall }

/-- 'armoirelaw07.PagesPlays', WHERE WHAT IT READS IS OF BULK AT MOST 1048576: true; the input reads as it did. -/
def pagesPlaysUptoRow : OpenClaim := { program := "ytfgjehecjgebdaagreat", sum := "93ecbd7e01388e0ae37652c33547dd8e190cbee1a6ad1230cd83fed47ba8b050", func := "armoire/armoirelaw07.PagesPlays", spec := "pagesPlays", unfollowed := true, recurses := true, apart := false, narrowed := true }
def PagesPlaysUptoSaid : Prop := pagesPlaysUptoRow.holds Tryz.pinned (OpenSpec.upto pagesPlaysSpec)

/-- 'armoirelaw09.TreeBad', WHERE WHAT IT READS IS OF BULK AT MOST 1048576: true; the input reads as it did. -/
def treeBadUptoRow : OpenClaim := { program := "ytfgjehecjgebdaagreat", sum := "93ecbd7e01388e0ae37652c33547dd8e190cbee1a6ad1230cd83fed47ba8b050", func := "armoire/armoirelaw09.TreeBad", spec := "treeBad", inPlace := ["slices.overlaps[string]", "slices.overlaps[int]"], unfollowed := true, recurses := true, apart := false, narrowed := true }
def TreeBadUptoSaid : Prop := treeBadUptoRow.holds Tryz.pinned (OpenSpec.upto treeBadSpec)

/-- 'armoirelaw09.TreeFull', WHERE WHAT IT READS IS OF BULK AT MOST 1048576: true; the input reads as it did. -/
def treeFullUptoRow : OpenClaim := { program := "ytfgjehecjgebdaagreat", sum := "93ecbd7e01388e0ae37652c33547dd8e190cbee1a6ad1230cd83fed47ba8b050", func := "armoire/armoirelaw09.TreeFull", spec := "treeFull", inPlace := ["slices.overlaps[string]", "slices.overlaps[int]"], unfollowed := true, recurses := true, apart := false, narrowed := true }
def TreeFullUptoSaid : Prop := treeFullUptoRow.holds Tryz.pinned (OpenSpec.upto treeFullSpec)

/-- 'armoirelaw09.TreeSame', WHERE WHAT IT READS IS OF BULK AT MOST 1048576: true; the input reads as it did. -/
def treeSameUptoRow : OpenClaim := { program := "ytfgjehecjgebdaagreat", sum := "93ecbd7e01388e0ae37652c33547dd8e190cbee1a6ad1230cd83fed47ba8b050", func := "armoire/armoirelaw09.TreeSame", spec := "treeSame", inPlace := ["slices.overlaps[string]", "slices.overlaps[int]"], unfollowed := true, recurses := true, apart := false, narrowed := true }
def TreeSameUptoSaid : Prop := treeSameUptoRow.holds Tryz.pinned (OpenSpec.upto treeSameSpec)

/-- 'armoirelaw09.TreeOld', WHERE WHAT IT READS IS OF BULK AT MOST 1048576: true; the input reads as it did. -/
def treeOldUptoRow : OpenClaim := { program := "ytfgjehecjgebdaagreat", sum := "93ecbd7e01388e0ae37652c33547dd8e190cbee1a6ad1230cd83fed47ba8b050", func := "armoire/armoirelaw09.TreeOld", spec := "treeOld", inPlace := ["slices.overlaps[string]", "slices.overlaps[int]"], unfollowed := true, recurses := true, apart := false, narrowed := true }
def TreeOldUptoSaid : Prop := treeOldUptoRow.holds Tryz.pinned (OpenSpec.upto treeOldSpec)

/-- 'armoirelaw10.CursorAll', WHERE WHAT IT READS IS OF BULK AT MOST 1048576: true; the input reads as it did. -/
def cursorAllUptoRow : OpenClaim := { program := "ytfgjehecjgebdaagreat", sum := "93ecbd7e01388e0ae37652c33547dd8e190cbee1a6ad1230cd83fed47ba8b050", func := "armoire/armoirelaw10.CursorAll", spec := "cursorAll", inPlace := ["slices.overlaps[int]", "slices.overlaps[string]"], unfollowed := true, recurses := true, apart := false, narrowed := true }
def CursorAllUptoSaid : Prop := cursorAllUptoRow.holds Tryz.pinned (OpenSpec.upto cursorAllSpec)

/-- 'armoirelaw10.CursorAbove', WHERE WHAT IT READS IS OF BULK AT MOST 1048576: true; the input reads as it did. -/
def cursorAboveUptoRow : OpenClaim := { program := "ytfgjehecjgebdaagreat", sum := "93ecbd7e01388e0ae37652c33547dd8e190cbee1a6ad1230cd83fed47ba8b050", func := "armoire/armoirelaw10.CursorAbove", spec := "cursorAbove", inPlace := ["slices.overlaps[int]", "slices.overlaps[string]"], unfollowed := true, recurses := true, apart := false, narrowed := true }
def CursorAboveUptoSaid : Prop := cursorAboveUptoRow.holds Tryz.pinned (OpenSpec.upto cursorAboveSpec)

/-- 'armoirelaw10.CursorRange', WHERE WHAT IT READS IS OF BULK AT MOST 1048576: true; the input reads as it did. -/
def cursorRangeUptoRow : OpenClaim := { program := "ytfgjehecjgebdaagreat", sum := "93ecbd7e01388e0ae37652c33547dd8e190cbee1a6ad1230cd83fed47ba8b050", func := "armoire/armoirelaw10.CursorRange", spec := "cursorRange", inPlace := ["slices.overlaps[int]", "slices.overlaps[string]"], unfollowed := true, recurses := true, apart := false, narrowed := true }
def CursorRangeUptoSaid : Prop := cursorRangeUptoRow.holds Tryz.pinned (OpenSpec.upto cursorRangeSpec)

/-- 'armoirelaw10.CursorWipes', WHERE WHAT IT READS IS OF BULK AT MOST 1048576: true; the input reads as it did. -/
def cursorWipesUptoRow : OpenClaim := { program := "ytfgjehecjgebdaagreat", sum := "93ecbd7e01388e0ae37652c33547dd8e190cbee1a6ad1230cd83fed47ba8b050", func := "armoire/armoirelaw10.CursorWipes", spec := "cursorWipes", inPlace := ["slices.overlaps[int]", "slices.overlaps[string]"], unfollowed := true, recurses := true, apart := false, narrowed := true }
def CursorWipesUptoSaid : Prop := cursorWipesUptoRow.holds Tryz.pinned (OpenSpec.upto cursorWipesSpec)

/-- 'armoirelaw09.TreePlays', WHERE WHAT IT READS IS OF BULK AT MOST 1048576: true; the input reads as it did. -/
def treePlaysUptoRow : OpenClaim := { program := "ytfgjehecjgebdaagreat", sum := "93ecbd7e01388e0ae37652c33547dd8e190cbee1a6ad1230cd83fed47ba8b050", func := "armoire/armoirelaw09.TreePlays", spec := "treePlays", inPlace := ["slices.overlaps[string]", "slices.overlaps[int]"], unfollowed := true, recurses := true, apart := false, narrowed := true }
def TreePlaysUptoSaid : Prop := treePlaysUptoRow.holds Tryz.pinned (OpenSpec.upto treePlaysSpec)

end Rows
end Go.Proofs.YtfgjehecjgebdaaGreat
