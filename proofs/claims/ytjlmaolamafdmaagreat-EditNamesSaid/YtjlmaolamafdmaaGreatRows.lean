/-
  No cell of these rows narrows 'for every input' (looked for: loops, veiled, ifaces, maps, wideKeys, modest, calm, conditions, laid).
  DERIVED. THE GIVEN ROWS OF THIS SEAT. 5 by the template 'for every input the law returns true; each argument reads behind the call as it read before'; 0 by the template 'total and deterministic' (their statements: YtjlmaolamafdmaaGreatTotals.lean).
  GIVEN WITH THE SEED: the statements are not yours to turn. If you find one false, say at which input.
  Laid BY PROGRAM, IN A SANDBOX (cutbox-rows.mjs): the forced cells as the released guide's own fill.sh prints them over the translation cd1d9aac3989f00d… (all of the seat's roots in one cut). By AI agents, Wed Nov 11 2026. No macro, syntax, notation, axiom, sorry.
-/
import Derived.Test.YtjlmaolamafdmaaGreatChecked
import GoSem.Claim
import GoSem.ClaimJoined
import GoSem.ClaimMapViews
import Derived.JoinedTies
import Derived.KernelRfl
namespace Go.Proofs.YtjlmaolamafdmaaGreat
/- THE CELL 'sum', in the pinned program and in every row, IS THE sha256 OF THE DUMP (.gsa) THAT YtjlmaolamafdmaaGreatProg.lean LOADS. Nothing in Lean hashes anything: it is a label: what it is worth is what the hold of that sum in a sandbox is worth. -/
noncomputable def Tryz.pinned : Pinned := { name := "ytjlmaolamafdmaagreat", sum := "cd1d9aac3989f00d6c3c6a2abac2b09a26637e8719fe8dd61695130334f2bf34", checked := Tryz.checked }
namespace Rows
def none {H : Type} : Left H := { results := [], args := [] }

/-- 'quartolaw15.PlanNames': WHATEVER THE INPUT: true; the input reads as it did. -/
def planNamesSpec : ChangeSpec := { name := "planNames", fn := fun _ => fun
  | [] => { results := [.lit (.bool true)], args := [] }
  | _ => none }
def planNamesRow : OpenClaim := { program := "ytjlmaolamafdmaagreat", sum := "cd1d9aac3989f00d6c3c6a2abac2b09a26637e8719fe8dd61695130334f2bf34", func := "quarto/quartolaw15.PlanNames", spec := "planNames", inPlace := ["internal/abi.NoEscape", "internal/bytealg.MakeNoZero"], unfollowed := true, recurses := true, apart := false }
def PlanNamesSaid : Prop := planNamesRow.holds Tryz.pinned (OpenSpec.ofChange planNamesSpec)

/-- ITS FALSE NEIGHBOUR: 'it returns false'. Refute it at one input. -/
def planNamesWrong : ChangeSpec := { name := "planNames", fn := fun _ => fun
  | [] => { results := [.lit (.bool false)], args := [] }
  | _ => none }
def PlanNamesWrongFalsely : Prop := planNamesRow.holds Tryz.pinned (OpenSpec.ofChange planNamesWrong)

/-- 'quartolaw21.CursorNames': WHATEVER THE INPUT: true; the input reads as it did. -/
def cursorNamesSpec : ChangeSpec := { name := "cursorNames", fn := fun _ => fun
  | [] => { results := [.lit (.bool true)], args := [] }
  | _ => none }
def cursorNamesRow : OpenClaim := { program := "ytjlmaolamafdmaagreat", sum := "cd1d9aac3989f00d6c3c6a2abac2b09a26637e8719fe8dd61695130334f2bf34", func := "quarto/quartolaw21.CursorNames", spec := "cursorNames", unfollowed := true, recurses := true, apart := false }
def CursorNamesSaid : Prop := cursorNamesRow.holds Tryz.pinned (OpenSpec.ofChange cursorNamesSpec)

/-- ITS FALSE NEIGHBOUR: 'it returns false'. Refute it at one input. -/
def cursorNamesWrong : ChangeSpec := { name := "cursorNames", fn := fun _ => fun
  | [] => { results := [.lit (.bool false)], args := [] }
  | _ => none }
def CursorNamesWrongFalsely : Prop := cursorNamesRow.holds Tryz.pinned (OpenSpec.ofChange cursorNamesWrong)

/-- 'quartolaw19.EditNames': WHATEVER THE INPUT: true; the input reads as it did. -/
def editNamesSpec : ChangeSpec := { name := "editNames", fn := fun _ => fun
  | [] => { results := [.lit (.bool true)], args := [] }
  | _ => none }
def editNamesRow : OpenClaim := { program := "ytjlmaolamafdmaagreat", sum := "cd1d9aac3989f00d6c3c6a2abac2b09a26637e8719fe8dd61695130334f2bf34", func := "quarto/quartolaw19.EditNames", spec := "editNames", inPlace := ["internal/abi.NoEscape", "internal/bytealg.MakeNoZero"], unfollowed := true, recurses := true, apart := false }
def EditNamesSaid : Prop := editNamesRow.holds Tryz.pinned (OpenSpec.ofChange editNamesSpec)

/-- ITS FALSE NEIGHBOUR: 'it returns false'. Refute it at one input. -/
def editNamesWrong : ChangeSpec := { name := "editNames", fn := fun _ => fun
  | [] => { results := [.lit (.bool false)], args := [] }
  | _ => none }
def EditNamesWrongFalsely : Prop := editNamesRow.holds Tryz.pinned (OpenSpec.ofChange editNamesWrong)

/-- 'quartolaw18.SliceNames': WHATEVER THE INPUT: true; the input reads as it did. -/
def sliceNamesSpec : ChangeSpec := { name := "sliceNames", fn := fun _ => fun
  | [] => { results := [.lit (.bool true)], args := [] }
  | _ => none }
def sliceNamesRow : OpenClaim := { program := "ytjlmaolamafdmaagreat", sum := "cd1d9aac3989f00d6c3c6a2abac2b09a26637e8719fe8dd61695130334f2bf34", func := "quarto/quartolaw18.SliceNames", spec := "sliceNames", inPlace := ["internal/abi.NoEscape", "internal/bytealg.MakeNoZero", "internal/bytealg.IndexByteString", "internal/bytealg.IndexString", "internal/bytealg.abigen_runtime_cmpstring"], unfollowed := true, recurses := true, named := ["internal/bytealg.MaxLen"], apart := false }
def SliceNamesSaid : Prop := sliceNamesRow.holds Tryz.pinned (OpenSpec.ofChange sliceNamesSpec)

/-- ITS FALSE NEIGHBOUR: 'it returns false'. Refute it at one input. -/
def sliceNamesWrong : ChangeSpec := { name := "sliceNames", fn := fun _ => fun
  | [] => { results := [.lit (.bool false)], args := [] }
  | _ => none }
def SliceNamesWrongFalsely : Prop := sliceNamesRow.holds Tryz.pinned (OpenSpec.ofChange sliceNamesWrong)

/-- 'quartolaw22.ReachNames': WHATEVER THE INPUT: true; the input reads as it did. -/
def reachNamesSpec : ChangeSpec := { name := "reachNames", fn := fun _ => fun
  | [] => { results := [.lit (.bool true)], args := [] }
  | _ => none }
def reachNamesRow : OpenClaim := { program := "ytjlmaolamafdmaagreat", sum := "cd1d9aac3989f00d6c3c6a2abac2b09a26637e8719fe8dd61695130334f2bf34", func := "quarto/quartolaw22.ReachNames", spec := "reachNames", unfollowed := true, recurses := true, apart := false }
def ReachNamesSaid : Prop := reachNamesRow.holds Tryz.pinned (OpenSpec.ofChange reachNamesSpec)

/-- ITS FALSE NEIGHBOUR: 'it returns false'. Refute it at one input. -/
def reachNamesWrong : ChangeSpec := { name := "reachNames", fn := fun _ => fun
  | [] => { results := [.lit (.bool false)], args := [] }
  | _ => none }
def ReachNamesWrongFalsely : Prop := reachNamesRow.holds Tryz.pinned (OpenSpec.ofChange reachNamesWrong)

/- THE SECOND FORM. 'bulk': how many values and letters a reading holds, each counted each time it is reached (what is shared counts as often as it is met; a slice's spare places count too). A statement '..UptoSaid' is the law's where the arguments, and the package variables that the reading takes, are together of bulk at most 1048576: NARROWER than '..Said'. Prove '..Said' where nothing that the law and all that it calls make is longer than what came in: it says more and counts as full. Else prove '..UptoSaid'. A law counts once. -/
mutual
def uptoBulk {H : Type} : DataW H → Nat
  | .lit (.string bytes) => bytes.length + 1
  | .lit _ => 1
  | .nil => 1
  | .ptr d => uptoBulk d + 1
  | .slice elems spare => uptoBulkAll elems + uptoBulkAll spare + 1
  | .agg parts => uptoBulkAll parts + 1
  | .iface _ d => uptoBulk d + 1
  | .map entries => uptoBulkEntries entries + 1
  | .held _ => 1
def uptoBulkAll {H : Type} : List (DataW H) → Nat
  | [] => 0
  | d :: r => uptoBulk d + uptoBulkAll r
def uptoBulkEntries {H : Type} : List (Lit × DataW H) → Nat
  | [] => 0
  | x :: r => uptoBulkEntry x + uptoBulkEntries r
def uptoBulkEntry {H : Type} : Lit × DataW H → Nat
  | (.string bytes, d) => bytes.length + uptoBulk d + 1
  | (_, d) => uptoBulk d + 1
 end
def uptoSmall : (H : Type) → List (DataW H) → Bool := fun _ ds => decide (uptoBulkAll ds ≤ 1048576)
def OpenSpec.upto (s : _root_.Go.ChangeSpec) : _root_.Go.OpenSpec := { _root_.Go.OpenSpec.ofChange s with cond := some uptoSmall }

/-- 'quartolaw15.PlanNames', WHERE WHAT IT READS IS OF BULK AT MOST 1048576: true; the input reads as it did. -/
def planNamesUptoRow : OpenClaim := { program := "ytjlmaolamafdmaagreat", sum := "cd1d9aac3989f00d6c3c6a2abac2b09a26637e8719fe8dd61695130334f2bf34", func := "quarto/quartolaw15.PlanNames", spec := "planNames", inPlace := ["internal/abi.NoEscape", "internal/bytealg.MakeNoZero"], unfollowed := true, recurses := true, apart := false, narrowed := true }
def PlanNamesUptoSaid : Prop := planNamesUptoRow.holds Tryz.pinned (OpenSpec.upto planNamesSpec)

/-- 'quartolaw21.CursorNames', WHERE WHAT IT READS IS OF BULK AT MOST 1048576: true; the input reads as it did. -/
def cursorNamesUptoRow : OpenClaim := { program := "ytjlmaolamafdmaagreat", sum := "cd1d9aac3989f00d6c3c6a2abac2b09a26637e8719fe8dd61695130334f2bf34", func := "quarto/quartolaw21.CursorNames", spec := "cursorNames", unfollowed := true, recurses := true, apart := false, narrowed := true }
def CursorNamesUptoSaid : Prop := cursorNamesUptoRow.holds Tryz.pinned (OpenSpec.upto cursorNamesSpec)

/-- 'quartolaw19.EditNames', WHERE WHAT IT READS IS OF BULK AT MOST 1048576: true; the input reads as it did. -/
def editNamesUptoRow : OpenClaim := { program := "ytjlmaolamafdmaagreat", sum := "cd1d9aac3989f00d6c3c6a2abac2b09a26637e8719fe8dd61695130334f2bf34", func := "quarto/quartolaw19.EditNames", spec := "editNames", inPlace := ["internal/abi.NoEscape", "internal/bytealg.MakeNoZero"], unfollowed := true, recurses := true, apart := false, narrowed := true }
def EditNamesUptoSaid : Prop := editNamesUptoRow.holds Tryz.pinned (OpenSpec.upto editNamesSpec)

/-- 'quartolaw18.SliceNames', WHERE WHAT IT READS IS OF BULK AT MOST 1048576: true; the input reads as it did. -/
def sliceNamesUptoRow : OpenClaim := { program := "ytjlmaolamafdmaagreat", sum := "cd1d9aac3989f00d6c3c6a2abac2b09a26637e8719fe8dd61695130334f2bf34", func := "quarto/quartolaw18.SliceNames", spec := "sliceNames", inPlace := ["internal/abi.NoEscape", "internal/bytealg.MakeNoZero", "internal/bytealg.IndexByteString", "internal/bytealg.IndexString", "internal/bytealg.abigen_runtime_cmpstring"], unfollowed := true, recurses := true, named := ["internal/bytealg.MaxLen"], apart := false, narrowed := true }
def SliceNamesUptoSaid : Prop := sliceNamesUptoRow.holds Tryz.pinned (OpenSpec.upto sliceNamesSpec)

/-- 'quartolaw22.ReachNames', WHERE WHAT IT READS IS OF BULK AT MOST 1048576: true; the input reads as it did. -/
def reachNamesUptoRow : OpenClaim := { program := "ytjlmaolamafdmaagreat", sum := "cd1d9aac3989f00d6c3c6a2abac2b09a26637e8719fe8dd61695130334f2bf34", func := "quarto/quartolaw22.ReachNames", spec := "reachNames", unfollowed := true, recurses := true, apart := false, narrowed := true }
def ReachNamesUptoSaid : Prop := reachNamesUptoRow.holds Tryz.pinned (OpenSpec.upto reachNamesSpec)

end Rows
end Go.Proofs.YtjlmaolamafdmaaGreat
