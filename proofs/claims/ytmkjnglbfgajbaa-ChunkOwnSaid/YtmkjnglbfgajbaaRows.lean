/-
  No cell of these rows narrows 'for every input' (looked for: loops, veiled, ifaces, maps, wideKeys, modest, calm, conditions, laid).
  DERIVED. THE GIVEN ROWS OF THIS SEAT. 8 by the template 'for every input the law returns true; each argument reads behind the call as it read before'; 0 by the template 'total and deterministic' (their statements: YtmkjnglbfgajbaaTotals.lean).
  GIVEN WITH THE SEED: the statements are not yours to turn. If you find one false, say at which input.
  Laid BY PROGRAM, IN A SANDBOX (cutbox-rows.mjs): the forced cells as the released guide's own fill.sh prints them over the translation 5a9d5106fec2538b… (all of the seat's roots in one cut). By AI agents, Wed Nov 11 2026. No macro, syntax, notation, axiom, sorry.
-/
import Derived.Test.YtmkjnglbfgajbaaChecked
import GoSem.Claim
import GoSem.ClaimJoined
import GoSem.ClaimMapViews
import Derived.JoinedTies
import Derived.KernelRfl
namespace Go.Proofs.Ytmkjnglbfgajbaa
/- THE CELL 'sum', in the pinned program and in every row, IS THE sha256 OF THE DUMP (.gsa) THAT YtmkjnglbfgajbaaProg.lean LOADS. Nothing in Lean hashes anything: it is a label: what it is worth is what the hold of that sum in a sandbox is worth. -/
noncomputable def Try.pinned : Pinned := { name := "ytmkjnglbfgajbaa", sum := "5a9d5106fec2538beb8451279016dcd12527d5b2410ce8f447dd0d1472ed22ba", checked := Try.checked }
namespace Rows
def none {H : Type} : Left H := { results := [], args := [] }

/-- 'quartolaw14.ChunkEvens': WHATEVER THE INPUT: true; the input reads as it did. -/
def chunkEvensSpec : ChangeSpec := { name := "chunkEvens", fn := fun _ => fun
  | [d1, d2] => { results := [.lit (.bool true)], args := [d1, d2] }
  | _ => none }
def chunkEvensRow : OpenClaim := { program := "ytmkjnglbfgajbaa", sum := "5a9d5106fec2538beb8451279016dcd12527d5b2410ce8f447dd0d1472ed22ba", func := "quarto/quartolaw14.ChunkEvens", spec := "chunkEvens", unfollowed := true, recurses := true, apart := false }
def ChunkEvensSaid : Prop := chunkEvensRow.holds Try.pinned (OpenSpec.ofChange chunkEvensSpec)

/-- ITS FALSE NEIGHBOUR: 'it returns false'. Refute it at one input. -/
def chunkEvensWrong : ChangeSpec := { name := "chunkEvens", fn := fun _ => fun
  | [d1, d2] => { results := [.lit (.bool false)], args := [d1, d2] }
  | _ => none }
def ChunkEvensWrongFalsely : Prop := chunkEvensRow.holds Try.pinned (OpenSpec.ofChange chunkEvensWrong)

/-- 'quartolaw14.ChunkSizes': WHATEVER THE INPUT: true; the input reads as it did. -/
def chunkSizesSpec : ChangeSpec := { name := "chunkSizes", fn := fun _ => fun
  | [d1, d2] => { results := [.lit (.bool true)], args := [d1, d2] }
  | _ => none }
def chunkSizesRow : OpenClaim := { program := "ytmkjnglbfgajbaa", sum := "5a9d5106fec2538beb8451279016dcd12527d5b2410ce8f447dd0d1472ed22ba", func := "quarto/quartolaw14.ChunkSizes", spec := "chunkSizes", unfollowed := true, recurses := true, apart := false }
def ChunkSizesSaid : Prop := chunkSizesRow.holds Try.pinned (OpenSpec.ofChange chunkSizesSpec)

/-- ITS FALSE NEIGHBOUR: 'it returns false'. Refute it at one input. -/
def chunkSizesWrong : ChangeSpec := { name := "chunkSizes", fn := fun _ => fun
  | [d1, d2] => { results := [.lit (.bool false)], args := [d1, d2] }
  | _ => none }
def ChunkSizesWrongFalsely : Prop := chunkSizesRow.holds Try.pinned (OpenSpec.ofChange chunkSizesWrong)

/-- 'quartolaw14.ChunkCuts': WHATEVER THE INPUT: true; the input reads as it did. -/
def chunkCutsSpec : ChangeSpec := { name := "chunkCuts", fn := fun _ => fun
  | [d1, d2, d3, d4] => { results := [.lit (.bool true)], args := [d1, d2, d3, d4] }
  | _ => none }
def chunkCutsRow : OpenClaim := { program := "ytmkjnglbfgajbaa", sum := "5a9d5106fec2538beb8451279016dcd12527d5b2410ce8f447dd0d1472ed22ba", func := "quarto/quartolaw14.ChunkCuts", spec := "chunkCuts", unfollowed := true, recurses := true, apart := false }
def ChunkCutsSaid : Prop := chunkCutsRow.holds Try.pinned (OpenSpec.ofChange chunkCutsSpec)

/-- ITS FALSE NEIGHBOUR: 'it returns false'. Refute it at one input. -/
def chunkCutsWrong : ChangeSpec := { name := "chunkCuts", fn := fun _ => fun
  | [d1, d2, d3, d4] => { results := [.lit (.bool false)], args := [d1, d2, d3, d4] }
  | _ => none }
def ChunkCutsWrongFalsely : Prop := chunkCutsRow.holds Try.pinned (OpenSpec.ofChange chunkCutsWrong)

/-- 'quartolaw14.ChunkBack': WHATEVER THE INPUT: true; the input reads as it did. -/
def chunkBackSpec : ChangeSpec := { name := "chunkBack", fn := fun _ => fun
  | [d1, d2] => { results := [.lit (.bool true)], args := [d1, d2] }
  | _ => none }
def chunkBackRow : OpenClaim := { program := "ytmkjnglbfgajbaa", sum := "5a9d5106fec2538beb8451279016dcd12527d5b2410ce8f447dd0d1472ed22ba", func := "quarto/quartolaw14.ChunkBack", spec := "chunkBack", unfollowed := true, recurses := true, apart := false }
def ChunkBackSaid : Prop := chunkBackRow.holds Try.pinned (OpenSpec.ofChange chunkBackSpec)

/-- ITS FALSE NEIGHBOUR: 'it returns false'. Refute it at one input. -/
def chunkBackWrong : ChangeSpec := { name := "chunkBack", fn := fun _ => fun
  | [d1, d2] => { results := [.lit (.bool false)], args := [d1, d2] }
  | _ => none }
def ChunkBackWrongFalsely : Prop := chunkBackRow.holds Try.pinned (OpenSpec.ofChange chunkBackWrong)

/-- 'quartolaw14.ChunkNames': WHATEVER THE INPUT: true; the input reads as it did. -/
def chunkNamesSpec : ChangeSpec := { name := "chunkNames", fn := fun _ => fun
  | [] => { results := [.lit (.bool true)], args := [] }
  | _ => none }
def chunkNamesRow : OpenClaim := { program := "ytmkjnglbfgajbaa", sum := "5a9d5106fec2538beb8451279016dcd12527d5b2410ce8f447dd0d1472ed22ba", func := "quarto/quartolaw14.ChunkNames", spec := "chunkNames", unfollowed := true, recurses := true, apart := false }
def ChunkNamesSaid : Prop := chunkNamesRow.holds Try.pinned (OpenSpec.ofChange chunkNamesSpec)

/-- ITS FALSE NEIGHBOUR: 'it returns false'. Refute it at one input. -/
def chunkNamesWrong : ChangeSpec := { name := "chunkNames", fn := fun _ => fun
  | [] => { results := [.lit (.bool false)], args := [] }
  | _ => none }
def ChunkNamesWrongFalsely : Prop := chunkNamesRow.holds Try.pinned (OpenSpec.ofChange chunkNamesWrong)

/-- 'quartolaw14.ChunkParts': WHATEVER THE INPUT: true; the input reads as it did. -/
def chunkPartsSpec : ChangeSpec := { name := "chunkParts", fn := fun _ => fun
  | [d] => { results := [.lit (.bool true)], args := [d] }
  | _ => none }
def chunkPartsRow : OpenClaim := { program := "ytmkjnglbfgajbaa", sum := "5a9d5106fec2538beb8451279016dcd12527d5b2410ce8f447dd0d1472ed22ba", func := "quarto/quartolaw14.ChunkParts", spec := "chunkParts", inPlace := ["internal/abi.NoEscape", "internal/bytealg.MakeNoZero"], unfollowed := true, recurses := true, apart := false }
def ChunkPartsSaid : Prop := chunkPartsRow.holds Try.pinned (OpenSpec.ofChange chunkPartsSpec)

/-- ITS FALSE NEIGHBOUR: 'it returns false'. Refute it at one input. -/
def chunkPartsWrong : ChangeSpec := { name := "chunkParts", fn := fun _ => fun
  | [d] => { results := [.lit (.bool false)], args := [d] }
  | _ => none }
def ChunkPartsWrongFalsely : Prop := chunkPartsRow.holds Try.pinned (OpenSpec.ofChange chunkPartsWrong)

/-- 'quartolaw14.ChunkOwn': WHATEVER THE INPUT: true; the input reads as it did. -/
def chunkOwnSpec : ChangeSpec := { name := "chunkOwn", fn := fun _ => fun
  | [d1, d2] => { results := [.lit (.bool true)], args := [d1, d2] }
  | _ => none }
def chunkOwnRow : OpenClaim := { program := "ytmkjnglbfgajbaa", sum := "5a9d5106fec2538beb8451279016dcd12527d5b2410ce8f447dd0d1472ed22ba", func := "quarto/quartolaw14.ChunkOwn", spec := "chunkOwn", inPlace := ["internal/abi.NoEscape", "internal/bytealg.MakeNoZero"], unfollowed := true, recurses := true, apart := false }
def ChunkOwnSaid : Prop := chunkOwnRow.holds Try.pinned (OpenSpec.ofChange chunkOwnSpec)

/-- ITS FALSE NEIGHBOUR: 'it returns false'. Refute it at one input. -/
def chunkOwnWrong : ChangeSpec := { name := "chunkOwn", fn := fun _ => fun
  | [d1, d2] => { results := [.lit (.bool false)], args := [d1, d2] }
  | _ => none }
def ChunkOwnWrongFalsely : Prop := chunkOwnRow.holds Try.pinned (OpenSpec.ofChange chunkOwnWrong)

/-- 'quartolaw14.ChunkJoins': WHATEVER THE INPUT: true; the input reads as it did. -/
def chunkJoinsSpec : ChangeSpec := { name := "chunkJoins", fn := fun _ => fun
  | [d1, d2] => { results := [.lit (.bool true)], args := [d1, d2] }
  | _ => none }
def chunkJoinsRow : OpenClaim := { program := "ytmkjnglbfgajbaa", sum := "5a9d5106fec2538beb8451279016dcd12527d5b2410ce8f447dd0d1472ed22ba", func := "quarto/quartolaw14.ChunkJoins", spec := "chunkJoins", inPlace := ["internal/abi.NoEscape", "internal/bytealg.MakeNoZero"], unfollowed := true, recurses := true, apart := false }
def ChunkJoinsSaid : Prop := chunkJoinsRow.holds Try.pinned (OpenSpec.ofChange chunkJoinsSpec)

/-- ITS FALSE NEIGHBOUR: 'it returns false'. Refute it at one input. -/
def chunkJoinsWrong : ChangeSpec := { name := "chunkJoins", fn := fun _ => fun
  | [d1, d2] => { results := [.lit (.bool false)], args := [d1, d2] }
  | _ => none }
def ChunkJoinsWrongFalsely : Prop := chunkJoinsRow.holds Try.pinned (OpenSpec.ofChange chunkJoinsWrong)

/- THE SECOND FORM. 'bulk': how many values and letters a reading holds, each counted each time it is reached (what is shared counts as often as it is met; a slice's spare places count too). A statement '..UptoSaid' is the law's where the arguments, and the package variables that the reading takes, are together of bulk at most 1048576: NARROWER than '..Said'. Prove '..Said' where nothing that the law and all that it calls make is longer than what came in: it says more and counts as full. Else prove '..UptoSaid'. A law counts once. -/
mutual
def uptoBulk {H : Type} : DataW H → Nat
  | .lit (.string bytes) => bytes.length + 1
  | .lit _ => 1
  | .nil => 1
  | .ptr d => uptoBulk d + 1
  | .slice elems spare => uptoBulkAll elems + uptoBulkAll spare + 1
  | .agg parts => uptoBulkAll parts + 1
  | .iface _ d => uptoBulk d + 1
  | .map entries => uptoBulkEntries entries + 1
  | .held _ => 1
def uptoBulkAll {H : Type} : List (DataW H) → Nat
  | [] => 0
  | d :: r => uptoBulk d + uptoBulkAll r
def uptoBulkEntries {H : Type} : List (Lit × DataW H) → Nat
  | [] => 0
  | x :: r => uptoBulkEntry x + uptoBulkEntries r
def uptoBulkEntry {H : Type} : Lit × DataW H → Nat
  | (.string bytes, d) => bytes.length + uptoBulk d + 1
  | (_, d) => uptoBulk d + 1
 end
def uptoSmall : (H : Type) → List (DataW H) → Bool := fun _ ds => decide (uptoBulkAll ds ≤ 1048576)
def OpenSpec.upto (s : _root_.Go.ChangeSpec) : _root_.Go.OpenSpec := { _root_.Go.OpenSpec.ofChange s with cond := some uptoSmall }

/-- 'quartolaw14.ChunkEvens', WHERE WHAT IT READS IS OF BULK AT MOST 1048576: true; the input reads as it did. -/
def chunkEvensUptoRow : OpenClaim := { program := "ytmkjnglbfgajbaa", sum := "5a9d5106fec2538beb8451279016dcd12527d5b2410ce8f447dd0d1472ed22ba", func := "quarto/quartolaw14.ChunkEvens", spec := "chunkEvens", unfollowed := true, recurses := true, apart := false, narrowed := true }
def ChunkEvensUptoSaid : Prop := chunkEvensUptoRow.holds Try.pinned (OpenSpec.upto chunkEvensSpec)

/-- 'quartolaw14.ChunkSizes', WHERE WHAT IT READS IS OF BULK AT MOST 1048576: true; the input reads as it did. -/
def chunkSizesUptoRow : OpenClaim := { program := "ytmkjnglbfgajbaa", sum := "5a9d5106fec2538beb8451279016dcd12527d5b2410ce8f447dd0d1472ed22ba", func := "quarto/quartolaw14.ChunkSizes", spec := "chunkSizes", unfollowed := true, recurses := true, apart := false, narrowed := true }
def ChunkSizesUptoSaid : Prop := chunkSizesUptoRow.holds Try.pinned (OpenSpec.upto chunkSizesSpec)

/-- 'quartolaw14.ChunkCuts', WHERE WHAT IT READS IS OF BULK AT MOST 1048576: true; the input reads as it did. -/
def chunkCutsUptoRow : OpenClaim := { program := "ytmkjnglbfgajbaa", sum := "5a9d5106fec2538beb8451279016dcd12527d5b2410ce8f447dd0d1472ed22ba", func := "quarto/quartolaw14.ChunkCuts", spec := "chunkCuts", unfollowed := true, recurses := true, apart := false, narrowed := true }
def ChunkCutsUptoSaid : Prop := chunkCutsUptoRow.holds Try.pinned (OpenSpec.upto chunkCutsSpec)

/-- 'quartolaw14.ChunkBack', WHERE WHAT IT READS IS OF BULK AT MOST 1048576: true; the input reads as it did. -/
def chunkBackUptoRow : OpenClaim := { program := "ytmkjnglbfgajbaa", sum := "5a9d5106fec2538beb8451279016dcd12527d5b2410ce8f447dd0d1472ed22ba", func := "quarto/quartolaw14.ChunkBack", spec := "chunkBack", unfollowed := true, recurses := true, apart := false, narrowed := true }
def ChunkBackUptoSaid : Prop := chunkBackUptoRow.holds Try.pinned (OpenSpec.upto chunkBackSpec)

/-- 'quartolaw14.ChunkNames', WHERE WHAT IT READS IS OF BULK AT MOST 1048576: true; the input reads as it did. -/
def chunkNamesUptoRow : OpenClaim := { program := "ytmkjnglbfgajbaa", sum := "5a9d5106fec2538beb8451279016dcd12527d5b2410ce8f447dd0d1472ed22ba", func := "quarto/quartolaw14.ChunkNames", spec := "chunkNames", unfollowed := true, recurses := true, apart := false, narrowed := true }
def ChunkNamesUptoSaid : Prop := chunkNamesUptoRow.holds Try.pinned (OpenSpec.upto chunkNamesSpec)

/-- 'quartolaw14.ChunkParts', WHERE WHAT IT READS IS OF BULK AT MOST 1048576: true; the input reads as it did. -/
def chunkPartsUptoRow : OpenClaim := { program := "ytmkjnglbfgajbaa", sum := "5a9d5106fec2538beb8451279016dcd12527d5b2410ce8f447dd0d1472ed22ba", func := "quarto/quartolaw14.ChunkParts", spec := "chunkParts", inPlace := ["internal/abi.NoEscape", "internal/bytealg.MakeNoZero"], unfollowed := true, recurses := true, apart := false, narrowed := true }
def ChunkPartsUptoSaid : Prop := chunkPartsUptoRow.holds Try.pinned (OpenSpec.upto chunkPartsSpec)

/-- 'quartolaw14.ChunkOwn', WHERE WHAT IT READS IS OF BULK AT MOST 1048576: true; the input reads as it did. -/
def chunkOwnUptoRow : OpenClaim := { program := "ytmkjnglbfgajbaa", sum := "5a9d5106fec2538beb8451279016dcd12527d5b2410ce8f447dd0d1472ed22ba", func := "quarto/quartolaw14.ChunkOwn", spec := "chunkOwn", inPlace := ["internal/abi.NoEscape", "internal/bytealg.MakeNoZero"], unfollowed := true, recurses := true, apart := false, narrowed := true }
def ChunkOwnUptoSaid : Prop := chunkOwnUptoRow.holds Try.pinned (OpenSpec.upto chunkOwnSpec)

/-- 'quartolaw14.ChunkJoins', WHERE WHAT IT READS IS OF BULK AT MOST 1048576: true; the input reads as it did. -/
def chunkJoinsUptoRow : OpenClaim := { program := "ytmkjnglbfgajbaa", sum := "5a9d5106fec2538beb8451279016dcd12527d5b2410ce8f447dd0d1472ed22ba", func := "quarto/quartolaw14.ChunkJoins", spec := "chunkJoins", inPlace := ["internal/abi.NoEscape", "internal/bytealg.MakeNoZero"], unfollowed := true, recurses := true, apart := false, narrowed := true }
def ChunkJoinsUptoSaid : Prop := chunkJoinsUptoRow.holds Try.pinned (OpenSpec.upto chunkJoinsSpec)

end Rows
end Go.Proofs.Ytmkjnglbfgajbaa
