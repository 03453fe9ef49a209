/-
  No cell of these rows narrows 'for every input' (looked for: loops, veiled, ifaces, maps, wideKeys, modest, calm, conditions, laid).
  DERIVED. THE GIVEN ROWS OF THIS SEAT. 7 by the template 'for every input the law returns true; each argument reads behind the call as it read before'; 0 by the template 'total and deterministic' (their statements: YtfgjehecjgebdaaTotals.lean).
  GIVEN WITH THE SEED: the statements are not yours to turn. If you find one false, say at which input.
  Laid BY PROGRAM, IN A SANDBOX (cutbox-rows.mjs): the forced cells as the released guide's own fill.sh prints them over the translation 25dac5d6d047f4ad… (all of the seat's roots in one cut). By AI agents, Wed Nov 11 2026. No macro, syntax, notation, axiom, sorry.
-/
import Derived.Test.YtfgjehecjgebdaaChecked
import GoSem.Claim
import GoSem.ClaimJoined
import GoSem.ClaimMapViews
import Derived.JoinedTies
import Derived.KernelRfl
namespace Go.Proofs.Ytfgjehecjgebdaa
/- THE CELL 'sum', in the pinned program and in every row, IS THE sha256 OF THE DUMP (.gsa) THAT YtfgjehecjgebdaaProg.lean LOADS. Nothing in Lean hashes anything: it is a label: what it is worth is what the hold of that sum in a sandbox is worth. -/
noncomputable def Try.pinned : Pinned := { name := "ytfgjehecjgebdaa", sum := "25dac5d6d047f4ad0570b4fcc3c23f3c30e553ec9b43c0835fce3a2a94c86828", checked := Try.checked }
namespace Rows
def none {H : Type} : Left H := { results := [], args := [] }

/-- 'armoirelaw06.SpaceMay': WHATEVER THE INPUT: true; the input reads as it did. -/
def spaceMaySpec : ChangeSpec := { name := "spaceMay", fn := fun _ => fun
  | [d] => { results := [.lit (.bool true)], args := [d] }
  | _ => none }
def spaceMayRow : OpenClaim := { program := "ytfgjehecjgebdaa", sum := "25dac5d6d047f4ad0570b4fcc3c23f3c30e553ec9b43c0835fce3a2a94c86828", func := "armoire/armoirelaw06.SpaceMay", spec := "spaceMay", apart := false }
def SpaceMaySaid : Prop := spaceMayRow.holds Try.pinned (OpenSpec.ofChange spaceMaySpec)

/-- ITS FALSE NEIGHBOUR: 'it returns false'. Refute it at one input. -/
def spaceMayWrong : ChangeSpec := { name := "spaceMay", fn := fun _ => fun
  | [d] => { results := [.lit (.bool false)], args := [d] }
  | _ => none }
def SpaceMayWrongFalsely : Prop := spaceMayRow.holds Try.pinned (OpenSpec.ofChange spaceMayWrong)

/-- 'armoirelaw06.SpaceHolds': WHATEVER THE INPUT: true; the input reads as it did. -/
def spaceHoldsSpec : ChangeSpec := { name := "spaceHolds", fn := fun _ => fun
  | [d1, d2, d3] => { results := [.lit (.bool true)], args := [d1, d2, d3] }
  | _ => none }
def spaceHoldsRow : OpenClaim := { program := "ytfgjehecjgebdaa", sum := "25dac5d6d047f4ad0570b4fcc3c23f3c30e553ec9b43c0835fce3a2a94c86828", func := "armoire/armoirelaw06.SpaceHolds", spec := "spaceHolds", apart := false }
def SpaceHoldsSaid : Prop := spaceHoldsRow.holds Try.pinned (OpenSpec.ofChange spaceHoldsSpec)

/-- ITS FALSE NEIGHBOUR: 'it returns false'. Refute it at one input. -/
def spaceHoldsWrong : ChangeSpec := { name := "spaceHolds", fn := fun _ => fun
  | [d1, d2, d3] => { results := [.lit (.bool false)], args := [d1, d2, d3] }
  | _ => none }
def SpaceHoldsWrongFalsely : Prop := spaceHoldsRow.holds Try.pinned (OpenSpec.ofChange spaceHoldsWrong)

/-- 'armoirelaw06.SpacePlays': WHATEVER THE INPUT: true; the input reads as it did. -/
def spacePlaysSpec : ChangeSpec := { name := "spacePlays", fn := fun _ => fun
  | [d1, d2] => { results := [.lit (.bool true)], args := [d1, d2] }
  | _ => none }
def spacePlaysRow : OpenClaim := { program := "ytfgjehecjgebdaa", sum := "25dac5d6d047f4ad0570b4fcc3c23f3c30e553ec9b43c0835fce3a2a94c86828", func := "armoire/armoirelaw06.SpacePlays", spec := "spacePlays", apart := false }
def SpacePlaysSaid : Prop := spacePlaysRow.holds Try.pinned (OpenSpec.ofChange spacePlaysSpec)

/-- ITS FALSE NEIGHBOUR: 'it returns false'. Refute it at one input. -/
def spacePlaysWrong : ChangeSpec := { name := "spacePlays", fn := fun _ => fun
  | [d1, d2] => { results := [.lit (.bool false)], args := [d1, d2] }
  | _ => none }
def SpacePlaysWrongFalsely : Prop := spacePlaysRow.holds Try.pinned (OpenSpec.ofChange spacePlaysWrong)

/-- 'armoirelaw06.SpaceTexts': WHATEVER THE INPUT: true; the input reads as it did. -/
def spaceTextsSpec : ChangeSpec := { name := "spaceTexts", fn := fun _ => fun
  | [d1, d2, d3] => { results := [.lit (.bool true)], args := [d1, d2, d3] }
  | _ => none }
def spaceTextsRow : OpenClaim := { program := "ytfgjehecjgebdaa", sum := "25dac5d6d047f4ad0570b4fcc3c23f3c30e553ec9b43c0835fce3a2a94c86828", func := "armoire/armoirelaw06.SpaceTexts", spec := "spaceTexts", apart := false }
def SpaceTextsSaid : Prop := spaceTextsRow.holds Try.pinned (OpenSpec.ofChange spaceTextsSpec)

/-- ITS FALSE NEIGHBOUR: 'it returns false'. Refute it at one input. -/
def spaceTextsWrong : ChangeSpec := { name := "spaceTexts", fn := fun _ => fun
  | [d1, d2, d3] => { results := [.lit (.bool false)], args := [d1, d2, d3] }
  | _ => none }
def SpaceTextsWrongFalsely : Prop := spaceTextsRow.holds Try.pinned (OpenSpec.ofChange spaceTextsWrong)

/-- 'armoirelaw07.PagesForm': WHATEVER THE INPUT: true; the input reads as it did. -/
def pagesFormSpec : ChangeSpec := { name := "pagesForm", fn := fun _ => fun
  | [d1, d2, d3] => { results := [.lit (.bool true)], args := [d1, d2, d3] }
  | _ => none }
def pagesFormRow : OpenClaim := { program := "ytfgjehecjgebdaa", sum := "25dac5d6d047f4ad0570b4fcc3c23f3c30e553ec9b43c0835fce3a2a94c86828", func := "armoire/armoirelaw07.PagesForm", spec := "pagesForm", unfollowed := true, recurses := true, apart := false }
def PagesFormSaid : Prop := pagesFormRow.holds Try.pinned (OpenSpec.ofChange pagesFormSpec)

/-- ITS FALSE NEIGHBOUR: 'it returns false'. Refute it at one input. -/
def pagesFormWrong : ChangeSpec := { name := "pagesForm", fn := fun _ => fun
  | [d1, d2, d3] => { results := [.lit (.bool false)], args := [d1, d2, d3] }
  | _ => none }
def PagesFormWrongFalsely : Prop := pagesFormRow.holds Try.pinned (OpenSpec.ofChange pagesFormWrong)

/-- 'armoirelaw07.PagesBad': WHATEVER THE INPUT: true; the input reads as it did. -/
def pagesBadSpec : ChangeSpec := { name := "pagesBad", fn := fun _ => fun
  | [d1, d2, d3, d4] => { results := [.lit (.bool true)], args := [d1, d2, d3, d4] }
  | _ => none }
def pagesBadRow : OpenClaim := { program := "ytfgjehecjgebdaa", sum := "25dac5d6d047f4ad0570b4fcc3c23f3c30e553ec9b43c0835fce3a2a94c86828", func := "armoire/armoirelaw07.PagesBad", spec := "pagesBad", unfollowed := true, recurses := true, apart := false }
def PagesBadSaid : Prop := pagesBadRow.holds Try.pinned (OpenSpec.ofChange pagesBadSpec)

/-- ITS FALSE NEIGHBOUR: 'it returns false'. Refute it at one input. -/
def pagesBadWrong : ChangeSpec := { name := "pagesBad", fn := fun _ => fun
  | [d1, d2, d3, d4] => { results := [.lit (.bool false)], args := [d1, d2, d3, d4] }
  | _ => none }
def PagesBadWrongFalsely : Prop := pagesBadRow.holds Try.pinned (OpenSpec.ofChange pagesBadWrong)

/-- 'armoirelaw07.PagesShadow': WHATEVER THE INPUT: true; the input reads as it did. -/
def pagesShadowSpec : ChangeSpec := { name := "pagesShadow", fn := fun _ => fun
  | [d] => { results := [.lit (.bool true)], args := [d] }
  | _ => none }
def pagesShadowRow : OpenClaim := { program := "ytfgjehecjgebdaa", sum := "25dac5d6d047f4ad0570b4fcc3c23f3c30e553ec9b43c0835fce3a2a94c86828", func := "armoire/armoirelaw07.PagesShadow", spec := "pagesShadow", unfollowed := true, recurses := true, apart := false }
def PagesShadowSaid : Prop := pagesShadowRow.holds Try.pinned (OpenSpec.ofChange pagesShadowSpec)

/-- ITS FALSE NEIGHBOUR: 'it returns false'. Refute it at one input. -/
def pagesShadowWrong : ChangeSpec := { name := "pagesShadow", fn := fun _ => fun
  | [d] => { results := [.lit (.bool false)], args := [d] }
  | _ => none }
def PagesShadowWrongFalsely : Prop := pagesShadowRow.holds Try.pinned (OpenSpec.ofChange pagesShadowWrong)

/- THE SECOND FORM. 'bulk': how many values and letters a reading holds, each counted each time it is reached (what is shared counts as often as it is met; a slice's spare places count too). A statement '..UptoSaid' is the law's where the arguments, and the package variables that the reading takes, are together of bulk at most 1048576: NARROWER than '..Said'. Prove '..Said' where nothing that the law and all that it calls make is longer than what came in: it says more and counts as full. Else prove '..UptoSaid'. A law counts once. -/
mutual
def uptoBulk {H : Type} : DataW H → Nat
  | .lit (.string bytes) => bytes.length + 1
  | .lit _ => 1
  | .nil => 1
  | .ptr d => uptoBulk d + 1
  | .slice elems spare => uptoBulkAll elems + uptoBulkAll spare + 1
  | .agg parts => uptoBulkAll parts + 1
  | .iface _ d => uptoBulk d + 1
  | .map entries => uptoBulkEntries entries + 1
  | .held _ => 1
def uptoBulkAll {H : Type} : List (DataW H) → Nat
  | [] => 0
  | d :: r => uptoBulk d + uptoBulkAll r
def uptoBulkEntries {H : Type} : List (Lit × DataW H) → Nat
  | [] => 0
  | x :: r => uptoBulkEntry x + uptoBulkEntries r
def uptoBulkEntry {H : Type} : Lit × DataW H → Nat
  | (.string bytes, d) => bytes.length + uptoBulk d + 1
  | (_, d) => uptoBulk d + 1
 end
def uptoSmall : (H : Type) → List (DataW H) → Bool := fun _ ds => decide (uptoBulkAll ds ≤ 1048576)
def OpenSpec.upto (s : _root_.Go.ChangeSpec) : _root_.Go.OpenSpec := { _root_.Go.OpenSpec.ofChange s with cond := some uptoSmall }

/-- 'armoirelaw06.SpaceMay', WHERE WHAT IT READS IS OF BULK AT MOST 1048576: true; the input reads as it did. -/
def spaceMayUptoRow : OpenClaim := { program := "ytfgjehecjgebdaa", sum := "25dac5d6d047f4ad0570b4fcc3c23f3c30e553ec9b43c0835fce3a2a94c86828", func := "armoire/armoirelaw06.SpaceMay", spec := "spaceMay", apart := false, narrowed := true }
def SpaceMayUptoSaid : Prop := spaceMayUptoRow.holds Try.pinned (OpenSpec.upto spaceMaySpec)

/-- 'armoirelaw06.SpaceHolds', WHERE WHAT IT READS IS OF BULK AT MOST 1048576: true; the input reads as it did. -/
def spaceHoldsUptoRow : OpenClaim := { program := "ytfgjehecjgebdaa", sum := "25dac5d6d047f4ad0570b4fcc3c23f3c30e553ec9b43c0835fce3a2a94c86828", func := "armoire/armoirelaw06.SpaceHolds", spec := "spaceHolds", apart := false, narrowed := true }
def SpaceHoldsUptoSaid : Prop := spaceHoldsUptoRow.holds Try.pinned (OpenSpec.upto spaceHoldsSpec)

/-- 'armoirelaw06.SpacePlays', WHERE WHAT IT READS IS OF BULK AT MOST 1048576: true; the input reads as it did. -/
def spacePlaysUptoRow : OpenClaim := { program := "ytfgjehecjgebdaa", sum := "25dac5d6d047f4ad0570b4fcc3c23f3c30e553ec9b43c0835fce3a2a94c86828", func := "armoire/armoirelaw06.SpacePlays", spec := "spacePlays", apart := false, narrowed := true }
def SpacePlaysUptoSaid : Prop := spacePlaysUptoRow.holds Try.pinned (OpenSpec.upto spacePlaysSpec)

/-- 'armoirelaw06.SpaceTexts', WHERE WHAT IT READS IS OF BULK AT MOST 1048576: true; the input reads as it did. -/
def spaceTextsUptoRow : OpenClaim := { program := "ytfgjehecjgebdaa", sum := "25dac5d6d047f4ad0570b4fcc3c23f3c30e553ec9b43c0835fce3a2a94c86828", func := "armoire/armoirelaw06.SpaceTexts", spec := "spaceTexts", apart := false, narrowed := true }
def SpaceTextsUptoSaid : Prop := spaceTextsUptoRow.holds Try.pinned (OpenSpec.upto spaceTextsSpec)

/-- 'armoirelaw07.PagesForm', WHERE WHAT IT READS IS OF BULK AT MOST 1048576: true; the input reads as it did. -/
def pagesFormUptoRow : OpenClaim := { program := "ytfgjehecjgebdaa", sum := "25dac5d6d047f4ad0570b4fcc3c23f3c30e553ec9b43c0835fce3a2a94c86828", func := "armoire/armoirelaw07.PagesForm", spec := "pagesForm", unfollowed := true, recurses := true, apart := false, narrowed := true }
def PagesFormUptoSaid : Prop := pagesFormUptoRow.holds Try.pinned (OpenSpec.upto pagesFormSpec)

/-- 'armoirelaw07.PagesBad', WHERE WHAT IT READS IS OF BULK AT MOST 1048576: true; the input reads as it did. -/
def pagesBadUptoRow : OpenClaim := { program := "ytfgjehecjgebdaa", sum := "25dac5d6d047f4ad0570b4fcc3c23f3c30e553ec9b43c0835fce3a2a94c86828", func := "armoire/armoirelaw07.PagesBad", spec := "pagesBad", unfollowed := true, recurses := true, apart := false, narrowed := true }
def PagesBadUptoSaid : Prop := pagesBadUptoRow.holds Try.pinned (OpenSpec.upto pagesBadSpec)

/-- 'armoirelaw07.PagesShadow', WHERE WHAT IT READS IS OF BULK AT MOST 1048576: true; the input reads as it did. -/
def pagesShadowUptoRow : OpenClaim := { program := "ytfgjehecjgebdaa", sum := "25dac5d6d047f4ad0570b4fcc3c23f3c30e553ec9b43c0835fce3a2a94c86828", func := "armoire/armoirelaw07.PagesShadow", spec := "pagesShadow", unfollowed := true, recurses := true, apart := false, narrowed := true }
def PagesShadowUptoSaid : Prop := pagesShadowUptoRow.holds Try.pinned (OpenSpec.upto pagesShadowSpec)

end Rows
end Go.Proofs.Ytfgjehecjgebdaa
