/-
  No cell of these rows narrows 'for every input' (looked for: loops, veiled, ifaces, maps, wideKeys, modest, calm, conditions, laid).
  DERIVED. THE GIVEN ROWS OF THIS SEAT. 8 by the template 'for every input the law returns true; each argument reads behind the call as it read before'; 0 by the template 'total and deterministic' (their statements: YtbmllhocajbcfaaTotals.lean).
  GIVEN WITH THE SEED: the statements are not yours to turn. If you find one false, say at which input.
  Laid BY PROGRAM, IN A SANDBOX (cutbox-rows.mjs): the forced cells as the released guide's own fill.sh prints them over the translation 061c168a46dcac45… (all of the seat's roots in one cut). By AI agents, Wed Nov 11 2026. No macro, syntax, notation, axiom, sorry.
-/
import Derived.Test.YtbmllhocajbcfaaChecked
import GoSem.Claim
import GoSem.ClaimJoined
import GoSem.ClaimMapViews
import Derived.JoinedTies
import Derived.KernelRfl
namespace Go.Proofs.Ytbmllhocajbcfaa
/- THE CELL 'sum', in the pinned program and in every row, IS THE sha256 OF THE DUMP (.gsa) THAT YtbmllhocajbcfaaProg.lean LOADS. Nothing in Lean hashes anything: it is a label: what it is worth is what the hold of that sum in a sandbox is worth. -/
noncomputable def Try.pinned : Pinned := { name := "ytbmllhocajbcfaa", sum := "061c168a46dcac4592a75f2850300af0d2819554b5577e05571bf56f9e0d0297", checked := Try.checked }
namespace Rows
def none {H : Type} : Left H := { results := [], args := [] }

/-- 'quartolaw16.RopeTexts': WHATEVER THE INPUT: true; the input reads as it did. -/
def ropeTextsSpec : ChangeSpec := { name := "ropeTexts", fn := fun _ => fun
  | [d1, d2] => { results := [.lit (.bool true)], args := [d1, d2] }
  | _ => none }
def ropeTextsRow : OpenClaim := { program := "ytbmllhocajbcfaa", sum := "061c168a46dcac4592a75f2850300af0d2819554b5577e05571bf56f9e0d0297", func := "quarto/quartolaw16.RopeTexts", spec := "ropeTexts", inPlace := ["internal/abi.NoEscape", "internal/bytealg.MakeNoZero"], unfollowed := true, recurses := true, apart := false }
def RopeTextsSaid : Prop := ropeTextsRow.holds Try.pinned (OpenSpec.ofChange ropeTextsSpec)

/-- ITS FALSE NEIGHBOUR: 'it returns false'. Refute it at one input. -/
def ropeTextsWrong : ChangeSpec := { name := "ropeTexts", fn := fun _ => fun
  | [d1, d2] => { results := [.lit (.bool false)], args := [d1, d2] }
  | _ => none }
def RopeTextsWrongFalsely : Prop := ropeTextsRow.holds Try.pinned (OpenSpec.ofChange ropeTextsWrong)

/-- 'quartolaw16.RopeShape': WHATEVER THE INPUT: true; the input reads as it did. -/
def ropeShapeSpec : ChangeSpec := { name := "ropeShape", fn := fun _ => fun
  | [d1, d2] => { results := [.lit (.bool true)], args := [d1, d2] }
  | _ => none }
def ropeShapeRow : OpenClaim := { program := "ytbmllhocajbcfaa", sum := "061c168a46dcac4592a75f2850300af0d2819554b5577e05571bf56f9e0d0297", func := "quarto/quartolaw16.RopeShape", spec := "ropeShape", unfollowed := true, recurses := true, apart := false }
def RopeShapeSaid : Prop := ropeShapeRow.holds Try.pinned (OpenSpec.ofChange ropeShapeSpec)

/-- ITS FALSE NEIGHBOUR: 'it returns false'. Refute it at one input. -/
def ropeShapeWrong : ChangeSpec := { name := "ropeShape", fn := fun _ => fun
  | [d1, d2] => { results := [.lit (.bool false)], args := [d1, d2] }
  | _ => none }
def RopeShapeWrongFalsely : Prop := ropeShapeRow.holds Try.pinned (OpenSpec.ofChange ropeShapeWrong)

/-- 'quartolaw16.RopeSlots': WHATEVER THE INPUT: true; the input reads as it did. -/
def ropeSlotsSpec : ChangeSpec := { name := "ropeSlots", fn := fun _ => fun
  | [d1, d2, d3] => { results := [.lit (.bool true)], args := [d1, d2, d3] }
  | _ => none }
def ropeSlotsRow : OpenClaim := { program := "ytbmllhocajbcfaa", sum := "061c168a46dcac4592a75f2850300af0d2819554b5577e05571bf56f9e0d0297", func := "quarto/quartolaw16.RopeSlots", spec := "ropeSlots", unfollowed := true, recurses := true, apart := false }
def RopeSlotsSaid : Prop := ropeSlotsRow.holds Try.pinned (OpenSpec.ofChange ropeSlotsSpec)

/-- ITS FALSE NEIGHBOUR: 'it returns false'. Refute it at one input. -/
def ropeSlotsWrong : ChangeSpec := { name := "ropeSlots", fn := fun _ => fun
  | [d1, d2, d3] => { results := [.lit (.bool false)], args := [d1, d2, d3] }
  | _ => none }
def RopeSlotsWrongFalsely : Prop := ropeSlotsRow.holds Try.pinned (OpenSpec.ofChange ropeSlotsWrong)

/-- 'quartolaw16.RopePens': WHATEVER THE INPUT: true; the input reads as it did. -/
def ropePensSpec : ChangeSpec := { name := "ropePens", fn := fun _ => fun
  | [d1, d2] => { results := [.lit (.bool true)], args := [d1, d2] }
  | _ => none }
def ropePensRow : OpenClaim := { program := "ytbmllhocajbcfaa", sum := "061c168a46dcac4592a75f2850300af0d2819554b5577e05571bf56f9e0d0297", func := "quarto/quartolaw16.RopePens", spec := "ropePens", unfollowed := true, recurses := true, apart := false }
def RopePensSaid : Prop := ropePensRow.holds Try.pinned (OpenSpec.ofChange ropePensSpec)

/-- ITS FALSE NEIGHBOUR: 'it returns false'. Refute it at one input. -/
def ropePensWrong : ChangeSpec := { name := "ropePens", fn := fun _ => fun
  | [d1, d2] => { results := [.lit (.bool false)], args := [d1, d2] }
  | _ => none }
def RopePensWrongFalsely : Prop := ropePensRow.holds Try.pinned (OpenSpec.ofChange ropePensWrong)

/-- 'quartolaw17.SeekPaths': WHATEVER THE INPUT: true; the input reads as it did. -/
def seekPathsSpec : ChangeSpec := { name := "seekPaths", fn := fun _ => fun
  | [d1, d2, d3, d4] => { results := [.lit (.bool true)], args := [d1, d2, d3, d4] }
  | _ => none }
def seekPathsRow : OpenClaim := { program := "ytbmllhocajbcfaa", sum := "061c168a46dcac4592a75f2850300af0d2819554b5577e05571bf56f9e0d0297", func := "quarto/quartolaw17.SeekPaths", spec := "seekPaths", unfollowed := true, recurses := true, apart := false }
def SeekPathsSaid : Prop := seekPathsRow.holds Try.pinned (OpenSpec.ofChange seekPathsSpec)

/-- ITS FALSE NEIGHBOUR: 'it returns false'. Refute it at one input. -/
def seekPathsWrong : ChangeSpec := { name := "seekPaths", fn := fun _ => fun
  | [d1, d2, d3, d4] => { results := [.lit (.bool false)], args := [d1, d2, d3, d4] }
  | _ => none }
def SeekPathsWrongFalsely : Prop := seekPathsRow.holds Try.pinned (OpenSpec.ofChange seekPathsWrong)

/-- 'quartolaw19.EditTexts': WHATEVER THE INPUT: true; the input reads as it did. -/
def editTextsSpec : ChangeSpec := { name := "editTexts", fn := fun _ => fun
  | [d1, d2, d3, d4, d5] => { results := [.lit (.bool true)], args := [d1, d2, d3, d4, d5] }
  | _ => none }
def editTextsRow : OpenClaim := { program := "ytbmllhocajbcfaa", sum := "061c168a46dcac4592a75f2850300af0d2819554b5577e05571bf56f9e0d0297", func := "quarto/quartolaw19.EditTexts", spec := "editTexts", unfollowed := true, recurses := true, apart := false }
def EditTextsSaid : Prop := editTextsRow.holds Try.pinned (OpenSpec.ofChange editTextsSpec)

/-- ITS FALSE NEIGHBOUR: 'it returns false'. Refute it at one input. -/
def editTextsWrong : ChangeSpec := { name := "editTexts", fn := fun _ => fun
  | [d1, d2, d3, d4, d5] => { results := [.lit (.bool false)], args := [d1, d2, d3, d4, d5] }
  | _ => none }
def EditTextsWrongFalsely : Prop := editTextsRow.holds Try.pinned (OpenSpec.ofChange editTextsWrong)

/-- 'quartolaw19.EditPaths': WHATEVER THE INPUT: true; the input reads as it did. -/
def editPathsSpec : ChangeSpec := { name := "editPaths", fn := fun _ => fun
  | [d1, d2, d3] => { results := [.lit (.bool true)], args := [d1, d2, d3] }
  | _ => none }
def editPathsRow : OpenClaim := { program := "ytbmllhocajbcfaa", sum := "061c168a46dcac4592a75f2850300af0d2819554b5577e05571bf56f9e0d0297", func := "quarto/quartolaw19.EditPaths", spec := "editPaths", unfollowed := true, recurses := true, apart := false }
def EditPathsSaid : Prop := editPathsRow.holds Try.pinned (OpenSpec.ofChange editPathsSpec)

/-- ITS FALSE NEIGHBOUR: 'it returns false'. Refute it at one input. -/
def editPathsWrong : ChangeSpec := { name := "editPaths", fn := fun _ => fun
  | [d1, d2, d3] => { results := [.lit (.bool false)], args := [d1, d2, d3] }
  | _ => none }
def EditPathsWrongFalsely : Prop := editPathsRow.holds Try.pinned (OpenSpec.ofChange editPathsWrong)

/-- 'quartolaw19.EditUndo': WHATEVER THE INPUT: true; the input reads as it did. -/
def editUndoSpec : ChangeSpec := { name := "editUndo", fn := fun _ => fun
  | [d1, d2, d3] => { results := [.lit (.bool true)], args := [d1, d2, d3] }
  | _ => none }
def editUndoRow : OpenClaim := { program := "ytbmllhocajbcfaa", sum := "061c168a46dcac4592a75f2850300af0d2819554b5577e05571bf56f9e0d0297", func := "quarto/quartolaw19.EditUndo", spec := "editUndo", unfollowed := true, recurses := true, apart := false }
def EditUndoSaid : Prop := editUndoRow.holds Try.pinned (OpenSpec.ofChange editUndoSpec)

/-- ITS FALSE NEIGHBOUR: 'it returns false'. Refute it at one input. -/
def editUndoWrong : ChangeSpec := { name := "editUndo", fn := fun _ => fun
  | [d1, d2, d3] => { results := [.lit (.bool false)], args := [d1, d2, d3] }
  | _ => none }
def EditUndoWrongFalsely : Prop := editUndoRow.holds Try.pinned (OpenSpec.ofChange editUndoWrong)

/- THE SECOND FORM. 'bulk': how many values and letters a reading holds, each counted each time it is reached (what is shared counts as often as it is met; a slice's spare places count too). A statement '..UptoSaid' is the law's where the arguments, and the package variables that the reading takes, are together of bulk at most 1048576: NARROWER than '..Said'. Prove '..Said' where nothing that the law and all that it calls make is longer than what came in: it says more and counts as full. Else prove '..UptoSaid'. A law counts once. -/
mutual
def uptoBulk {H : Type} : DataW H → Nat
  | .lit (.string bytes) => bytes.length + 1
  | .lit _ => 1
  | .nil => 1
  | .ptr d => uptoBulk d + 1
  | .slice elems spare => uptoBulkAll elems + uptoBulkAll spare + 1
  | .agg parts => uptoBulkAll parts + 1
  | .iface _ d => uptoBulk d + 1
  | .map entries => uptoBulkEntries entries + 1
  | .held _ => 1
def uptoBulkAll {H : Type} : List (DataW H) → Nat
  | [] => 0
  | d :: r => uptoBulk d + uptoBulkAll r
def uptoBulkEntries {H : Type} : List (Lit × DataW H) → Nat
  | [] => 0
  | x :: r => uptoBulkEntry x + uptoBulkEntries r
def uptoBulkEntry {H : Type} : Lit × DataW H → Nat
  | (.string bytes, d) => bytes.length + uptoBulk d + 1
  | (_, d) => uptoBulk d + 1
 end
def uptoSmall : (H : Type) → List (DataW H) → Bool := fun _ ds => decide (uptoBulkAll ds ≤ 1048576)
def OpenSpec.upto (s : _root_.Go.ChangeSpec) : _root_.Go.OpenSpec := { _root_.Go.OpenSpec.ofChange s with cond := some uptoSmall }

/-- 'quartolaw16.RopeTexts', WHERE WHAT IT READS IS OF BULK AT MOST 1048576: true; the input reads as it did. -/
def ropeTextsUptoRow : OpenClaim := { program := "ytbmllhocajbcfaa", sum := "061c168a46dcac4592a75f2850300af0d2819554b5577e05571bf56f9e0d0297", func := "quarto/quartolaw16.RopeTexts", spec := "ropeTexts", inPlace := ["internal/abi.NoEscape", "internal/bytealg.MakeNoZero"], unfollowed := true, recurses := true, apart := false, narrowed := true }
def RopeTextsUptoSaid : Prop := ropeTextsUptoRow.holds Try.pinned (OpenSpec.upto ropeTextsSpec)

/-- 'quartolaw16.RopeShape', WHERE WHAT IT READS IS OF BULK AT MOST 1048576: true; the input reads as it did. -/
def ropeShapeUptoRow : OpenClaim := { program := "ytbmllhocajbcfaa", sum := "061c168a46dcac4592a75f2850300af0d2819554b5577e05571bf56f9e0d0297", func := "quarto/quartolaw16.RopeShape", spec := "ropeShape", unfollowed := true, recurses := true, apart := false, narrowed := true }
def RopeShapeUptoSaid : Prop := ropeShapeUptoRow.holds Try.pinned (OpenSpec.upto ropeShapeSpec)

/-- 'quartolaw16.RopeSlots', WHERE WHAT IT READS IS OF BULK AT MOST 1048576: true; the input reads as it did. -/
def ropeSlotsUptoRow : OpenClaim := { program := "ytbmllhocajbcfaa", sum := "061c168a46dcac4592a75f2850300af0d2819554b5577e05571bf56f9e0d0297", func := "quarto/quartolaw16.RopeSlots", spec := "ropeSlots", unfollowed := true, recurses := true, apart := false, narrowed := true }
def RopeSlotsUptoSaid : Prop := ropeSlotsUptoRow.holds Try.pinned (OpenSpec.upto ropeSlotsSpec)

/-- 'quartolaw16.RopePens', WHERE WHAT IT READS IS OF BULK AT MOST 1048576: true; the input reads as it did. -/
def ropePensUptoRow : OpenClaim := { program := "ytbmllhocajbcfaa", sum := "061c168a46dcac4592a75f2850300af0d2819554b5577e05571bf56f9e0d0297", func := "quarto/quartolaw16.RopePens", spec := "ropePens", unfollowed := true, recurses := true, apart := false, narrowed := true }
def RopePensUptoSaid : Prop := ropePensUptoRow.holds Try.pinned (OpenSpec.upto ropePensSpec)

/-- 'quartolaw17.SeekPaths', WHERE WHAT IT READS IS OF BULK AT MOST 1048576: true; the input reads as it did. -/
def seekPathsUptoRow : OpenClaim := { program := "ytbmllhocajbcfaa", sum := "061c168a46dcac4592a75f2850300af0d2819554b5577e05571bf56f9e0d0297", func := "quarto/quartolaw17.SeekPaths", spec := "seekPaths", unfollowed := true, recurses := true, apart := false, narrowed := true }
def SeekPathsUptoSaid : Prop := seekPathsUptoRow.holds Try.pinned (OpenSpec.upto seekPathsSpec)

/-- 'quartolaw19.EditTexts', WHERE WHAT IT READS IS OF BULK AT MOST 1048576: true; the input reads as it did. -/
def editTextsUptoRow : OpenClaim := { program := "ytbmllhocajbcfaa", sum := "061c168a46dcac4592a75f2850300af0d2819554b5577e05571bf56f9e0d0297", func := "quarto/quartolaw19.EditTexts", spec := "editTexts", unfollowed := true, recurses := true, apart := false, narrowed := true }
def EditTextsUptoSaid : Prop := editTextsUptoRow.holds Try.pinned (OpenSpec.upto editTextsSpec)

/-- 'quartolaw19.EditPaths', WHERE WHAT IT READS IS OF BULK AT MOST 1048576: true; the input reads as it did. -/
def editPathsUptoRow : OpenClaim := { program := "ytbmllhocajbcfaa", sum := "061c168a46dcac4592a75f2850300af0d2819554b5577e05571bf56f9e0d0297", func := "quarto/quartolaw19.EditPaths", spec := "editPaths", unfollowed := true, recurses := true, apart := false, narrowed := true }
def EditPathsUptoSaid : Prop := editPathsUptoRow.holds Try.pinned (OpenSpec.upto editPathsSpec)

/-- 'quartolaw19.EditUndo', WHERE WHAT IT READS IS OF BULK AT MOST 1048576: true; the input reads as it did. -/
def editUndoUptoRow : OpenClaim := { program := "ytbmllhocajbcfaa", sum := "061c168a46dcac4592a75f2850300af0d2819554b5577e05571bf56f9e0d0297", func := "quarto/quartolaw19.EditUndo", spec := "editUndo", unfollowed := true, recurses := true, apart := false, narrowed := true }
def EditUndoUptoSaid : Prop := editUndoUptoRow.holds Try.pinned (OpenSpec.upto editUndoSpec)

end Rows
end Go.Proofs.Ytbmllhocajbcfaa
