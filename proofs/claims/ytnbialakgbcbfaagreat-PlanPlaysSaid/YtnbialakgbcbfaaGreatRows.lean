/-
  No cell of these rows narrows 'for every input' (looked for: loops, veiled, ifaces, maps, wideKeys, modest, calm, conditions, laid).
  DERIVED. THE GIVEN ROWS OF THIS SEAT. 6 by the template 'for every input the law returns true; each argument reads behind the call as it read before'; 0 by the template 'total and deterministic' (their statements: YtnbialakgbcbfaaGreatTotals.lean).
  GIVEN WITH THE SEED: the statements are not yours to turn. If you find one false, say at which input.
  Laid BY PROGRAM, IN A SANDBOX (cutbox-rows.mjs): the forced cells as the released guide's own fill.sh prints them over the translation 5c93e4fab08e5dc4… (all of the seat's roots in one cut). By AI agents, Wed Nov 11 2026. No macro, syntax, notation, axiom, sorry.
-/
import Derived.Test.YtnbialakgbcbfaaGreatChecked
import GoSem.Claim
import GoSem.ClaimJoined
import GoSem.ClaimMapViews
import Derived.JoinedTies
import Derived.KernelRfl
namespace Go.Proofs.YtnbialakgbcbfaaGreat
/- THE CELL 'sum', in the pinned program and in every row, IS THE sha256 OF THE DUMP (.gsa) THAT YtnbialakgbcbfaaGreatProg.lean LOADS. Nothing in Lean hashes anything: it is a label: what it is worth is what the hold of that sum in a sandbox is worth. -/
noncomputable def Tryz.pinned : Pinned := { name := "ytnbialakgbcbfaagreat", sum := "5c93e4fab08e5dc4082e080926a2fc4764c7176883e9fd4104e24a16d2e9806d", checked := Tryz.checked }
namespace Rows
def none {H : Type} : Left H := { results := [], args := [] }

/-- 'quartolaw15.PlanPlays': WHATEVER THE INPUT: true; the input reads as it did. -/
def planPlaysSpec : ChangeSpec := { name := "planPlays", fn := fun _ => fun
  | [d1, d2] => { results := [.lit (.bool true)], args := [d1, d2] }
  | _ => none }
def planPlaysRow : OpenClaim := { program := "ytnbialakgbcbfaagreat", sum := "5c93e4fab08e5dc4082e080926a2fc4764c7176883e9fd4104e24a16d2e9806d", func := "quarto/quartolaw15.PlanPlays", spec := "planPlays", unfollowed := true, recurses := true, apart := false }
def PlanPlaysSaid : Prop := planPlaysRow.holds Tryz.pinned (OpenSpec.ofChange planPlaysSpec)

/-- ITS FALSE NEIGHBOUR: 'it returns false'. Refute it at one input. -/
def planPlaysWrong : ChangeSpec := { name := "planPlays", fn := fun _ => fun
  | [d1, d2] => { results := [.lit (.bool false)], args := [d1, d2] }
  | _ => none }
def PlanPlaysWrongFalsely : Prop := planPlaysRow.holds Tryz.pinned (OpenSpec.ofChange planPlaysWrong)

/-- 'quartolaw17.SeekMatches': WHATEVER THE INPUT: true; the input reads as it did. -/
def seekMatchesSpec : ChangeSpec := { name := "seekMatches", fn := fun _ => fun
  | [d1, d2, d3, d4] => { results := [.lit (.bool true)], args := [d1, d2, d3, d4] }
  | _ => none }
def seekMatchesRow : OpenClaim := { program := "ytnbialakgbcbfaagreat", sum := "5c93e4fab08e5dc4082e080926a2fc4764c7176883e9fd4104e24a16d2e9806d", func := "quarto/quartolaw17.SeekMatches", spec := "seekMatches", unfollowed := true, recurses := true, apart := false }
def SeekMatchesSaid : Prop := seekMatchesRow.holds Tryz.pinned (OpenSpec.ofChange seekMatchesSpec)

/-- ITS FALSE NEIGHBOUR: 'it returns false'. Refute it at one input. -/
def seekMatchesWrong : ChangeSpec := { name := "seekMatches", fn := fun _ => fun
  | [d1, d2, d3, d4] => { results := [.lit (.bool false)], args := [d1, d2, d3, d4] }
  | _ => none }
def SeekMatchesWrongFalsely : Prop := seekMatchesRow.holds Tryz.pinned (OpenSpec.ofChange seekMatchesWrong)

/-- 'quartolaw17.SeekAlike': WHATEVER THE INPUT: true; the input reads as it did. -/
def seekAlikeSpec : ChangeSpec := { name := "seekAlike", fn := fun _ => fun
  | [d1, d2, d3, d4] => { results := [.lit (.bool true)], args := [d1, d2, d3, d4] }
  | _ => none }
def seekAlikeRow : OpenClaim := { program := "ytnbialakgbcbfaagreat", sum := "5c93e4fab08e5dc4082e080926a2fc4764c7176883e9fd4104e24a16d2e9806d", func := "quarto/quartolaw17.SeekAlike", spec := "seekAlike", unfollowed := true, recurses := true, apart := false }
def SeekAlikeSaid : Prop := seekAlikeRow.holds Tryz.pinned (OpenSpec.ofChange seekAlikeSpec)

/-- ITS FALSE NEIGHBOUR: 'it returns false'. Refute it at one input. -/
def seekAlikeWrong : ChangeSpec := { name := "seekAlike", fn := fun _ => fun
  | [d1, d2, d3, d4] => { results := [.lit (.bool false)], args := [d1, d2, d3, d4] }
  | _ => none }
def SeekAlikeWrongFalsely : Prop := seekAlikeRow.holds Tryz.pinned (OpenSpec.ofChange seekAlikeWrong)

/-- 'quartolaw18.SliceMatches': WHATEVER THE INPUT: true; the input reads as it did. -/
def sliceMatchesSpec : ChangeSpec := { name := "sliceMatches", fn := fun _ => fun
  | [d1, d2, d3, d4, d5] => { results := [.lit (.bool true)], args := [d1, d2, d3, d4, d5] }
  | _ => none }
def sliceMatchesRow : OpenClaim := { program := "ytnbialakgbcbfaagreat", sum := "5c93e4fab08e5dc4082e080926a2fc4764c7176883e9fd4104e24a16d2e9806d", func := "quarto/quartolaw18.SliceMatches", spec := "sliceMatches", inPlace := ["internal/abi.NoEscape", "internal/bytealg.MakeNoZero", "internal/bytealg.IndexByteString", "internal/bytealg.IndexString", "internal/bytealg.abigen_runtime_cmpstring"], unfollowed := true, recurses := true, named := ["internal/bytealg.MaxLen"], apart := false }
def SliceMatchesSaid : Prop := sliceMatchesRow.holds Tryz.pinned (OpenSpec.ofChange sliceMatchesSpec)

/-- ITS FALSE NEIGHBOUR: 'it returns false'. Refute it at one input. -/
def sliceMatchesWrong : ChangeSpec := { name := "sliceMatches", fn := fun _ => fun
  | [d1, d2, d3, d4, d5] => { results := [.lit (.bool false)], args := [d1, d2, d3, d4, d5] }
  | _ => none }
def SliceMatchesWrongFalsely : Prop := sliceMatchesRow.holds Tryz.pinned (OpenSpec.ofChange sliceMatchesWrong)

/-- 'quartolaw18.SliceCuts': WHATEVER THE INPUT: true; the input reads as it did. -/
def sliceCutsSpec : ChangeSpec := { name := "sliceCuts", fn := fun _ => fun
  | [d1, d2, d3, d4] => { results := [.lit (.bool true)], args := [d1, d2, d3, d4] }
  | _ => none }
def sliceCutsRow : OpenClaim := { program := "ytnbialakgbcbfaagreat", sum := "5c93e4fab08e5dc4082e080926a2fc4764c7176883e9fd4104e24a16d2e9806d", func := "quarto/quartolaw18.SliceCuts", spec := "sliceCuts", inPlace := ["internal/abi.NoEscape", "internal/bytealg.MakeNoZero", "internal/bytealg.IndexByteString", "internal/bytealg.IndexString"], unfollowed := true, recurses := true, named := ["internal/bytealg.MaxLen"], apart := false }
def SliceCutsSaid : Prop := sliceCutsRow.holds Tryz.pinned (OpenSpec.ofChange sliceCutsSpec)

/-- ITS FALSE NEIGHBOUR: 'it returns false'. Refute it at one input. -/
def sliceCutsWrong : ChangeSpec := { name := "sliceCuts", fn := fun _ => fun
  | [d1, d2, d3, d4] => { results := [.lit (.bool false)], args := [d1, d2, d3, d4] }
  | _ => none }
def SliceCutsWrongFalsely : Prop := sliceCutsRow.holds Tryz.pinned (OpenSpec.ofChange sliceCutsWrong)

/-- 'quartolaw19.EditMatches': WHATEVER THE INPUT: true; the input reads as it did. -/
def editMatchesSpec : ChangeSpec := { name := "editMatches", fn := fun _ => fun
  | [d1, d2, d3, d4, d5] => { results := [.lit (.bool true)], args := [d1, d2, d3, d4, d5] }
  | _ => none }
def editMatchesRow : OpenClaim := { program := "ytnbialakgbcbfaagreat", sum := "5c93e4fab08e5dc4082e080926a2fc4764c7176883e9fd4104e24a16d2e9806d", func := "quarto/quartolaw19.EditMatches", spec := "editMatches", unfollowed := true, recurses := true, apart := false }
def EditMatchesSaid : Prop := editMatchesRow.holds Tryz.pinned (OpenSpec.ofChange editMatchesSpec)

/-- ITS FALSE NEIGHBOUR: 'it returns false'. Refute it at one input. -/
def editMatchesWrong : ChangeSpec := { name := "editMatches", fn := fun _ => fun
  | [d1, d2, d3, d4, d5] => { results := [.lit (.bool false)], args := [d1, d2, d3, d4, d5] }
  | _ => none }
def EditMatchesWrongFalsely : Prop := editMatchesRow.holds Tryz.pinned (OpenSpec.ofChange editMatchesWrong)

/- THE SECOND FORM. 'bulk': how many values and letters a reading holds, each counted each time it is reached (what is shared counts as often as it is met; a slice's spare places count too). A statement '..UptoSaid' is the law's where the arguments, and the package variables that the reading takes, are together of bulk at most 1048576: NARROWER than '..Said'. Prove '..Said' where nothing that the law and all that it calls make is longer than what came in: it says more and counts as full. Else prove '..UptoSaid'. A law counts once. -/
mutual
def uptoBulk {H : Type} : DataW H → Nat
  | .lit (.string bytes) => bytes.length + 1
  | .lit _ => 1
  | .nil => 1
  | .ptr d => uptoBulk d + 1
  | .slice elems spare => uptoBulkAll elems + uptoBulkAll spare + 1
  | .agg parts => uptoBulkAll parts + 1
  | .iface _ d => uptoBulk d + 1
  | .map entries => uptoBulkEntries entries + 1
  | .held _ => 1
def uptoBulkAll {H : Type} : List (DataW H) → Nat
  | [] => 0
  | d :: r => uptoBulk d + uptoBulkAll r
def uptoBulkEntries {H : Type} : List (Lit × DataW H) → Nat
  | [] => 0
  | x :: r => uptoBulkEntry x + uptoBulkEntries r
def uptoBulkEntry {H : Type} : Lit × DataW H → Nat
  | (.string bytes, d) => bytes.length + uptoBulk d + 1
  | (_, d) => uptoBulk d + 1
 end
def uptoSmall : (H : Type) → List (DataW H) → Bool := fun _ ds => decide (uptoBulkAll ds ≤ 1048576)
def OpenSpec.upto (s : _root_.Go.ChangeSpec) : _root_.Go.OpenSpec := { _root_.Go.OpenSpec.ofChange s with cond := some uptoSmall }

/-- 'quartolaw15.PlanPlays', WHERE WHAT IT READS IS OF BULK AT MOST 1048576: true; the input reads as it did. -/
def planPlaysUptoRow : OpenClaim := { program := "ytnbialakgbcbfaagreat", sum := "5c93e4fab08e5dc4082e080926a2fc4764c7176883e9fd4104e24a16d2e9806d", func := "quarto/quartolaw15.PlanPlays", spec := "planPlays", unfollowed := true, recurses := true, apart := false, narrowed := true }
def PlanPlaysUptoSaid : Prop := planPlaysUptoRow.holds Tryz.pinned (OpenSpec.upto planPlaysSpec)

/-- 'quartolaw17.SeekMatches', WHERE WHAT IT READS IS OF BULK AT MOST 1048576: true; the input reads as it did. -/
def seekMatchesUptoRow : OpenClaim := { program := "ytnbialakgbcbfaagreat", sum := "5c93e4fab08e5dc4082e080926a2fc4764c7176883e9fd4104e24a16d2e9806d", func := "quarto/quartolaw17.SeekMatches", spec := "seekMatches", unfollowed := true, recurses := true, apart := false, narrowed := true }
def SeekMatchesUptoSaid : Prop := seekMatchesUptoRow.holds Tryz.pinned (OpenSpec.upto seekMatchesSpec)

/-- 'quartolaw17.SeekAlike', WHERE WHAT IT READS IS OF BULK AT MOST 1048576: true; the input reads as it did. -/
def seekAlikeUptoRow : OpenClaim := { program := "ytnbialakgbcbfaagreat", sum := "5c93e4fab08e5dc4082e080926a2fc4764c7176883e9fd4104e24a16d2e9806d", func := "quarto/quartolaw17.SeekAlike", spec := "seekAlike", unfollowed := true, recurses := true, apart := false, narrowed := true }
def SeekAlikeUptoSaid : Prop := seekAlikeUptoRow.holds Tryz.pinned (OpenSpec.upto seekAlikeSpec)

/-- 'quartolaw18.SliceMatches', WHERE WHAT IT READS IS OF BULK AT MOST 1048576: true; the input reads as it did. -/
def sliceMatchesUptoRow : OpenClaim := { program := "ytnbialakgbcbfaagreat", sum := "5c93e4fab08e5dc4082e080926a2fc4764c7176883e9fd4104e24a16d2e9806d", func := "quarto/quartolaw18.SliceMatches", spec := "sliceMatches", inPlace := ["internal/abi.NoEscape", "internal/bytealg.MakeNoZero", "internal/bytealg.IndexByteString", "internal/bytealg.IndexString", "internal/bytealg.abigen_runtime_cmpstring"], unfollowed := true, recurses := true, named := ["internal/bytealg.MaxLen"], apart := false, narrowed := true }
def SliceMatchesUptoSaid : Prop := sliceMatchesUptoRow.holds Tryz.pinned (OpenSpec.upto sliceMatchesSpec)

/-- 'quartolaw18.SliceCuts', WHERE WHAT IT READS IS OF BULK AT MOST 1048576: true; the input reads as it did. -/
def sliceCutsUptoRow : OpenClaim := { program := "ytnbialakgbcbfaagreat", sum := "5c93e4fab08e5dc4082e080926a2fc4764c7176883e9fd4104e24a16d2e9806d", func := "quarto/quartolaw18.SliceCuts", spec := "sliceCuts", inPlace := ["internal/abi.NoEscape", "internal/bytealg.MakeNoZero", "internal/bytealg.IndexByteString", "internal/bytealg.IndexString"], unfollowed := true, recurses := true, named := ["internal/bytealg.MaxLen"], apart := false, narrowed := true }
def SliceCutsUptoSaid : Prop := sliceCutsUptoRow.holds Tryz.pinned (OpenSpec.upto sliceCutsSpec)

/-- 'quartolaw19.EditMatches', WHERE WHAT IT READS IS OF BULK AT MOST 1048576: true; the input reads as it did. -/
def editMatchesUptoRow : OpenClaim := { program := "ytnbialakgbcbfaagreat", sum := "5c93e4fab08e5dc4082e080926a2fc4764c7176883e9fd4104e24a16d2e9806d", func := "quarto/quartolaw19.EditMatches", spec := "editMatches", unfollowed := true, recurses := true, apart := false, narrowed := true }
def EditMatchesUptoSaid : Prop := editMatchesUptoRow.holds Tryz.pinned (OpenSpec.upto editMatchesSpec)

end Rows
end Go.Proofs.YtnbialakgbcbfaaGreat
