/-
  No cell of these rows narrows 'for every input' (looked for: loops, veiled, ifaces, maps, wideKeys, modest, calm, conditions, laid).
  DERIVED. THE GIVEN ROWS OF THIS SEAT. 11 by the template 'for every input the law returns true; each argument reads behind the call as it read before'; 0 by the template 'total and deterministic' (their statements: YtleajkoecgbnlaaGreatTotals.lean).
  GIVEN WITH THE SEED: the statements are not yours to turn. If you find one false, say at which input.
  Laid BY PROGRAM, IN A SANDBOX (cutbox-rows.mjs): the forced cells as the released guide's own fill.sh prints them over the translation e1d69bc53af6eba2… (all of the seat's roots in one cut). By AI agents, Wed Nov 11 2026. No macro, syntax, notation, axiom, sorry.
-/
import Derived.Test.YtleajkoecgbnlaaGreatChecked
import GoSem.Claim
import GoSem.ClaimJoined
import GoSem.ClaimMapViews
import Derived.JoinedTies
import Derived.KernelRfl
namespace Go.Proofs.YtleajkoecgbnlaaGreat
/- THE CELL 'sum', in the pinned program and in every row, IS THE sha256 OF THE DUMP (.gsa) THAT YtleajkoecgbnlaaGreatProg.lean LOADS. Nothing in Lean hashes anything: it is a label: what it is worth is what the hold of that sum in a sandbox is worth. -/
noncomputable def Tryz.pinned : Pinned := { name := "ytleajkoecgbnlaagreat", sum := "e1d69bc53af6eba2da82e1538765f760c52e354b4b8edd16d9c7f01aa35b3fdf", checked := Tryz.checked }
namespace Rows
def none {H : Type} : Left H := { results := [], args := [] }

/-- 'quartolaw18.SliceParts': WHATEVER THE INPUT: true; the input reads as it did. -/
def slicePartsSpec : ChangeSpec := { name := "sliceParts", fn := fun _ => fun
  | [d1, d2, d3, d4, d5] => { results := [.lit (.bool true)], args := [d1, d2, d3, d4, d5] }
  | _ => none }
def slicePartsRow : OpenClaim := { program := "ytleajkoecgbnlaagreat", sum := "e1d69bc53af6eba2da82e1538765f760c52e354b4b8edd16d9c7f01aa35b3fdf", func := "quarto/quartolaw18.SliceParts", spec := "sliceParts", inPlace := ["internal/abi.NoEscape", "internal/bytealg.MakeNoZero", "internal/bytealg.IndexByteString", "internal/bytealg.IndexString"], unfollowed := true, recurses := true, named := ["internal/bytealg.MaxLen"], apart := false }
def SlicePartsSaid : Prop := slicePartsRow.holds Tryz.pinned (OpenSpec.ofChange slicePartsSpec)

/-- ITS FALSE NEIGHBOUR: 'it returns false'. Refute it at one input. -/
def slicePartsWrong : ChangeSpec := { name := "sliceParts", fn := fun _ => fun
  | [d1, d2, d3, d4, d5] => { results := [.lit (.bool false)], args := [d1, d2, d3, d4, d5] }
  | _ => none }
def SlicePartsWrongFalsely : Prop := slicePartsRow.holds Tryz.pinned (OpenSpec.ofChange slicePartsWrong)

/-- 'quartolaw18.SliceOrder': WHATEVER THE INPUT: true; the input reads as it did. -/
def sliceOrderSpec : ChangeSpec := { name := "sliceOrder", fn := fun _ => fun
  | [d1, d2, d3, d4, d5, d6] => { results := [.lit (.bool true)], args := [d1, d2, d3, d4, d5, d6] }
  | _ => none }
def sliceOrderRow : OpenClaim := { program := "ytleajkoecgbnlaagreat", sum := "e1d69bc53af6eba2da82e1538765f760c52e354b4b8edd16d9c7f01aa35b3fdf", func := "quarto/quartolaw18.SliceOrder", spec := "sliceOrder", inPlace := ["internal/abi.NoEscape", "internal/bytealg.MakeNoZero", "internal/bytealg.IndexByteString", "internal/bytealg.IndexString", "internal/bytealg.abigen_runtime_cmpstring"], unfollowed := true, recurses := true, named := ["internal/bytealg.MaxLen"], apart := false }
def SliceOrderSaid : Prop := sliceOrderRow.holds Tryz.pinned (OpenSpec.ofChange sliceOrderSpec)

/-- ITS FALSE NEIGHBOUR: 'it returns false'. Refute it at one input. -/
def sliceOrderWrong : ChangeSpec := { name := "sliceOrder", fn := fun _ => fun
  | [d1, d2, d3, d4, d5, d6] => { results := [.lit (.bool false)], args := [d1, d2, d3, d4, d5, d6] }
  | _ => none }
def SliceOrderWrongFalsely : Prop := sliceOrderRow.holds Tryz.pinned (OpenSpec.ofChange sliceOrderWrong)

/-- 'quartolaw18.SliceCopies': WHATEVER THE INPUT: true; the input reads as it did. -/
def sliceCopiesSpec : ChangeSpec := { name := "sliceCopies", fn := fun _ => fun
  | [d1, d2, d3, d4, d5] => { results := [.lit (.bool true)], args := [d1, d2, d3, d4, d5] }
  | _ => none }
def sliceCopiesRow : OpenClaim := { program := "ytleajkoecgbnlaagreat", sum := "e1d69bc53af6eba2da82e1538765f760c52e354b4b8edd16d9c7f01aa35b3fdf", func := "quarto/quartolaw18.SliceCopies", spec := "sliceCopies", inPlace := ["internal/abi.NoEscape", "internal/bytealg.MakeNoZero", "internal/bytealg.IndexByteString", "internal/bytealg.IndexString"], unfollowed := true, recurses := true, named := ["internal/bytealg.MaxLen"], apart := false }
def SliceCopiesSaid : Prop := sliceCopiesRow.holds Tryz.pinned (OpenSpec.ofChange sliceCopiesSpec)

/-- ITS FALSE NEIGHBOUR: 'it returns false'. Refute it at one input. -/
def sliceCopiesWrong : ChangeSpec := { name := "sliceCopies", fn := fun _ => fun
  | [d1, d2, d3, d4, d5] => { results := [.lit (.bool false)], args := [d1, d2, d3, d4, d5] }
  | _ => none }
def SliceCopiesWrongFalsely : Prop := sliceCopiesRow.holds Tryz.pinned (OpenSpec.ofChange sliceCopiesWrong)

/-- 'quartolaw20.PatchTexts': WHATEVER THE INPUT: true; the input reads as it did. -/
def patchTextsSpec : ChangeSpec := { name := "patchTexts", fn := fun _ => fun
  | [d1, d2, d3, d4] => { results := [.lit (.bool true)], args := [d1, d2, d3, d4] }
  | _ => none }
def patchTextsRow : OpenClaim := { program := "ytleajkoecgbnlaagreat", sum := "e1d69bc53af6eba2da82e1538765f760c52e354b4b8edd16d9c7f01aa35b3fdf", func := "quarto/quartolaw20.PatchTexts", spec := "patchTexts", inPlace := ["internal/abi.NoEscape"], unfollowed := true, recurses := true, apart := false }
def PatchTextsSaid : Prop := patchTextsRow.holds Tryz.pinned (OpenSpec.ofChange patchTextsSpec)

/-- ITS FALSE NEIGHBOUR: 'it returns false'. Refute it at one input. -/
def patchTextsWrong : ChangeSpec := { name := "patchTexts", fn := fun _ => fun
  | [d1, d2, d3, d4] => { results := [.lit (.bool false)], args := [d1, d2, d3, d4] }
  | _ => none }
def PatchTextsWrongFalsely : Prop := patchTextsRow.holds Tryz.pinned (OpenSpec.ofChange patchTextsWrong)

/-- 'quartolaw20.PatchShares': WHATEVER THE INPUT: true; the input reads as it did. -/
def patchSharesSpec : ChangeSpec := { name := "patchShares", fn := fun _ => fun
  | [d1, d2, d3, d4, d5, d6] => { results := [.lit (.bool true)], args := [d1, d2, d3, d4, d5, d6] }
  | _ => none }
def patchSharesRow : OpenClaim := { program := "ytleajkoecgbnlaagreat", sum := "e1d69bc53af6eba2da82e1538765f760c52e354b4b8edd16d9c7f01aa35b3fdf", func := "quarto/quartolaw20.PatchShares", spec := "patchShares", unfollowed := true, recurses := true, apart := false }
def PatchSharesSaid : Prop := patchSharesRow.holds Tryz.pinned (OpenSpec.ofChange patchSharesSpec)

/-- ITS FALSE NEIGHBOUR: 'it returns false'. Refute it at one input. -/
def patchSharesWrong : ChangeSpec := { name := "patchShares", fn := fun _ => fun
  | [d1, d2, d3, d4, d5, d6] => { results := [.lit (.bool false)], args := [d1, d2, d3, d4, d5, d6] }
  | _ => none }
def PatchSharesWrongFalsely : Prop := patchSharesRow.holds Tryz.pinned (OpenSpec.ofChange patchSharesWrong)

/-- 'quartolaw21.CursorVisits': WHATEVER THE INPUT: true; the input reads as it did. -/
def cursorVisitsSpec : ChangeSpec := { name := "cursorVisits", fn := fun _ => fun
  | [d1, d2, d3, d4] => { results := [.lit (.bool true)], args := [d1, d2, d3, d4] }
  | _ => none }
def cursorVisitsRow : OpenClaim := { program := "ytleajkoecgbnlaagreat", sum := "e1d69bc53af6eba2da82e1538765f760c52e354b4b8edd16d9c7f01aa35b3fdf", func := "quarto/quartolaw21.CursorVisits", spec := "cursorVisits", unfollowed := true, recurses := true, apart := false }
def CursorVisitsSaid : Prop := cursorVisitsRow.holds Tryz.pinned (OpenSpec.ofChange cursorVisitsSpec)

/-- ITS FALSE NEIGHBOUR: 'it returns false'. Refute it at one input. -/
def cursorVisitsWrong : ChangeSpec := { name := "cursorVisits", fn := fun _ => fun
  | [d1, d2, d3, d4] => { results := [.lit (.bool false)], args := [d1, d2, d3, d4] }
  | _ => none }
def CursorVisitsWrongFalsely : Prop := cursorVisitsRow.holds Tryz.pinned (OpenSpec.ofChange cursorVisitsWrong)

/-- 'quartolaw21.CursorLines': WHATEVER THE INPUT: true; the input reads as it did. -/
def cursorLinesSpec : ChangeSpec := { name := "cursorLines", fn := fun _ => fun
  | [d1, d2, d3, d4] => { results := [.lit (.bool true)], args := [d1, d2, d3, d4] }
  | _ => none }
def cursorLinesRow : OpenClaim := { program := "ytleajkoecgbnlaagreat", sum := "e1d69bc53af6eba2da82e1538765f760c52e354b4b8edd16d9c7f01aa35b3fdf", func := "quarto/quartolaw21.CursorLines", spec := "cursorLines", unfollowed := true, recurses := true, apart := false }
def CursorLinesSaid : Prop := cursorLinesRow.holds Tryz.pinned (OpenSpec.ofChange cursorLinesSpec)

/-- ITS FALSE NEIGHBOUR: 'it returns false'. Refute it at one input. -/
def cursorLinesWrong : ChangeSpec := { name := "cursorLines", fn := fun _ => fun
  | [d1, d2, d3, d4] => { results := [.lit (.bool false)], args := [d1, d2, d3, d4] }
  | _ => none }
def CursorLinesWrongFalsely : Prop := cursorLinesRow.holds Tryz.pinned (OpenSpec.ofChange cursorLinesWrong)

/-- 'quartolaw21.CursorTexts': WHATEVER THE INPUT: true; the input reads as it did. -/
def cursorTextsSpec : ChangeSpec := { name := "cursorTexts", fn := fun _ => fun
  | [d1, d2, d3, d4] => { results := [.lit (.bool true)], args := [d1, d2, d3, d4] }
  | _ => none }
def cursorTextsRow : OpenClaim := { program := "ytleajkoecgbnlaagreat", sum := "e1d69bc53af6eba2da82e1538765f760c52e354b4b8edd16d9c7f01aa35b3fdf", func := "quarto/quartolaw21.CursorTexts", spec := "cursorTexts", unfollowed := true, recurses := true, apart := false }
def CursorTextsSaid : Prop := cursorTextsRow.holds Tryz.pinned (OpenSpec.ofChange cursorTextsSpec)

/-- ITS FALSE NEIGHBOUR: 'it returns false'. Refute it at one input. -/
def cursorTextsWrong : ChangeSpec := { name := "cursorTexts", fn := fun _ => fun
  | [d1, d2, d3, d4] => { results := [.lit (.bool false)], args := [d1, d2, d3, d4] }
  | _ => none }
def CursorTextsWrongFalsely : Prop := cursorTextsRow.holds Tryz.pinned (OpenSpec.ofChange cursorTextsWrong)

/-- 'quartolaw21.CursorApart': WHATEVER THE INPUT: true; the input reads as it did. -/
def cursorApartSpec : ChangeSpec := { name := "cursorApart", fn := fun _ => fun
  | [d1, d2, d3] => { results := [.lit (.bool true)], args := [d1, d2, d3] }
  | _ => none }
def cursorApartRow : OpenClaim := { program := "ytleajkoecgbnlaagreat", sum := "e1d69bc53af6eba2da82e1538765f760c52e354b4b8edd16d9c7f01aa35b3fdf", func := "quarto/quartolaw21.CursorApart", spec := "cursorApart", unfollowed := true, recurses := true, apart := false }
def CursorApartSaid : Prop := cursorApartRow.holds Tryz.pinned (OpenSpec.ofChange cursorApartSpec)

/-- ITS FALSE NEIGHBOUR: 'it returns false'. Refute it at one input. -/
def cursorApartWrong : ChangeSpec := { name := "cursorApart", fn := fun _ => fun
  | [d1, d2, d3] => { results := [.lit (.bool false)], args := [d1, d2, d3] }
  | _ => none }
def CursorApartWrongFalsely : Prop := cursorApartRow.holds Tryz.pinned (OpenSpec.ofChange cursorApartWrong)

/-- 'quartolaw22.ReachSets': WHATEVER THE INPUT: true; the input reads as it did. -/
def reachSetsSpec : ChangeSpec := { name := "reachSets", fn := fun _ => fun
  | [d1, d2, d3, d4, d5] => { results := [.lit (.bool true)], args := [d1, d2, d3, d4, d5] }
  | _ => none }
def reachSetsRow : OpenClaim := { program := "ytleajkoecgbnlaagreat", sum := "e1d69bc53af6eba2da82e1538765f760c52e354b4b8edd16d9c7f01aa35b3fdf", func := "quarto/quartolaw22.ReachSets", spec := "reachSets", unfollowed := true, recurses := true, apart := false }
def ReachSetsSaid : Prop := reachSetsRow.holds Tryz.pinned (OpenSpec.ofChange reachSetsSpec)

/-- ITS FALSE NEIGHBOUR: 'it returns false'. Refute it at one input. -/
def reachSetsWrong : ChangeSpec := { name := "reachSets", fn := fun _ => fun
  | [d1, d2, d3, d4, d5] => { results := [.lit (.bool false)], args := [d1, d2, d3, d4, d5] }
  | _ => none }
def ReachSetsWrongFalsely : Prop := reachSetsRow.holds Tryz.pinned (OpenSpec.ofChange reachSetsWrong)

/-- 'quartolaw22.ReachParts': WHATEVER THE INPUT: true; the input reads as it did. -/
def reachPartsSpec : ChangeSpec := { name := "reachParts", fn := fun _ => fun
  | [d1, d2, d3, d4] => { results := [.lit (.bool true)], args := [d1, d2, d3, d4] }
  | _ => none }
def reachPartsRow : OpenClaim := { program := "ytleajkoecgbnlaagreat", sum := "e1d69bc53af6eba2da82e1538765f760c52e354b4b8edd16d9c7f01aa35b3fdf", func := "quarto/quartolaw22.ReachParts", spec := "reachParts", unfollowed := true, recurses := true, apart := false }
def ReachPartsSaid : Prop := reachPartsRow.holds Tryz.pinned (OpenSpec.ofChange reachPartsSpec)

/-- ITS FALSE NEIGHBOUR: 'it returns false'. Refute it at one input. -/
def reachPartsWrong : ChangeSpec := { name := "reachParts", fn := fun _ => fun
  | [d1, d2, d3, d4] => { results := [.lit (.bool false)], args := [d1, d2, d3, d4] }
  | _ => none }
def ReachPartsWrongFalsely : Prop := reachPartsRow.holds Tryz.pinned (OpenSpec.ofChange reachPartsWrong)

/- THE SECOND FORM. 'bulk': how many values and letters a reading holds, each counted each time it is reached (what is shared counts as often as it is met; a slice's spare places count too). A statement '..UptoSaid' is the law's where the arguments, and the package variables that the reading takes, are together of bulk at most 1048576: NARROWER than '..Said'. Prove '..Said' where nothing that the law and all that it calls make is longer than what came in: it says more and counts as full. Else prove '..UptoSaid'. A law counts once. -/
mutual
def uptoBulk {H : Type} : DataW H → Nat
  | .lit (.string bytes) => bytes.length + 1
  | .lit _ => 1
  | .nil => 1
  | .ptr d => uptoBulk d + 1
  | .slice elems spare => uptoBulkAll elems + uptoBulkAll spare + 1
  | .agg parts => uptoBulkAll parts + 1
  | .iface _ d => uptoBulk d + 1
  | .map entries => uptoBulkEntries entries + 1
  | .held _ => 1
def uptoBulkAll {H : Type} : List (DataW H) → Nat
  | [] => 0
  | d :: r => uptoBulk d + uptoBulkAll r
def uptoBulkEntries {H : Type} : List (Lit × DataW H) → Nat
  | [] => 0
  | x :: r => uptoBulkEntry x + uptoBulkEntries r
def uptoBulkEntry {H : Type} : Lit × DataW H → Nat
  | (.string bytes, d) => bytes.length + uptoBulk d + 1
  | (_, d) => uptoBulk d + 1
 end
def uptoSmall : (H : Type) → List (DataW H) → Bool := fun _ ds => decide (uptoBulkAll ds ≤ 1048576)
def OpenSpec.upto (s : _root_.Go.ChangeSpec) : _root_.Go.OpenSpec := { _root_.Go.OpenSpec.ofChange s with cond := some uptoSmall }

/-- 'quartolaw18.SliceParts', WHERE WHAT IT READS IS OF BULK AT MOST 1048576: true; the input reads as it did. -/
def slicePartsUptoRow : OpenClaim := { program := "ytleajkoecgbnlaagreat", sum := "e1d69bc53af6eba2da82e1538765f760c52e354b4b8edd16d9c7f01aa35b3fdf", func := "quarto/quartolaw18.SliceParts", spec := "sliceParts", inPlace := ["internal/abi.NoEscape", "internal/bytealg.MakeNoZero", "internal/bytealg.IndexByteString", "internal/bytealg.IndexString"], unfollowed := true, recurses := true, named := ["internal/bytealg.MaxLen"], apart := false, narrowed := true }
def SlicePartsUptoSaid : Prop := slicePartsUptoRow.holds Tryz.pinned (OpenSpec.upto slicePartsSpec)

/-- 'quartolaw18.SliceOrder', WHERE WHAT IT READS IS OF BULK AT MOST 1048576: true; the input reads as it did. -/
def sliceOrderUptoRow : OpenClaim := { program := "ytleajkoecgbnlaagreat", sum := "e1d69bc53af6eba2da82e1538765f760c52e354b4b8edd16d9c7f01aa35b3fdf", func := "quarto/quartolaw18.SliceOrder", spec := "sliceOrder", inPlace := ["internal/abi.NoEscape", "internal/bytealg.MakeNoZero", "internal/bytealg.IndexByteString", "internal/bytealg.IndexString", "internal/bytealg.abigen_runtime_cmpstring"], unfollowed := true, recurses := true, named := ["internal/bytealg.MaxLen"], apart := false, narrowed := true }
def SliceOrderUptoSaid : Prop := sliceOrderUptoRow.holds Tryz.pinned (OpenSpec.upto sliceOrderSpec)

/-- 'quartolaw18.SliceCopies', WHERE WHAT IT READS IS OF BULK AT MOST 1048576: true; the input reads as it did. -/
def sliceCopiesUptoRow : OpenClaim := { program := "ytleajkoecgbnlaagreat", sum := "e1d69bc53af6eba2da82e1538765f760c52e354b4b8edd16d9c7f01aa35b3fdf", func := "quarto/quartolaw18.SliceCopies", spec := "sliceCopies", inPlace := ["internal/abi.NoEscape", "internal/bytealg.MakeNoZero", "internal/bytealg.IndexByteString", "internal/bytealg.IndexString"], unfollowed := true, recurses := true, named := ["internal/bytealg.MaxLen"], apart := false, narrowed := true }
def SliceCopiesUptoSaid : Prop := sliceCopiesUptoRow.holds Tryz.pinned (OpenSpec.upto sliceCopiesSpec)

/-- 'quartolaw20.PatchTexts', WHERE WHAT IT READS IS OF BULK AT MOST 1048576: true; the input reads as it did. -/
def patchTextsUptoRow : OpenClaim := { program := "ytleajkoecgbnlaagreat", sum := "e1d69bc53af6eba2da82e1538765f760c52e354b4b8edd16d9c7f01aa35b3fdf", func := "quarto/quartolaw20.PatchTexts", spec := "patchTexts", inPlace := ["internal/abi.NoEscape"], unfollowed := true, recurses := true, apart := false, narrowed := true }
def PatchTextsUptoSaid : Prop := patchTextsUptoRow.holds Tryz.pinned (OpenSpec.upto patchTextsSpec)

/-- 'quartolaw20.PatchShares', WHERE WHAT IT READS IS OF BULK AT MOST 1048576: true; the input reads as it did. -/
def patchSharesUptoRow : OpenClaim := { program := "ytleajkoecgbnlaagreat", sum := "e1d69bc53af6eba2da82e1538765f760c52e354b4b8edd16d9c7f01aa35b3fdf", func := "quarto/quartolaw20.PatchShares", spec := "patchShares", unfollowed := true, recurses := true, apart := false, narrowed := true }
def PatchSharesUptoSaid : Prop := patchSharesUptoRow.holds Tryz.pinned (OpenSpec.upto patchSharesSpec)

/-- 'quartolaw21.CursorVisits', WHERE WHAT IT READS IS OF BULK AT MOST 1048576: true; the input reads as it did. -/
def cursorVisitsUptoRow : OpenClaim := { program := "ytleajkoecgbnlaagreat", sum := "e1d69bc53af6eba2da82e1538765f760c52e354b4b8edd16d9c7f01aa35b3fdf", func := "quarto/quartolaw21.CursorVisits", spec := "cursorVisits", unfollowed := true, recurses := true, apart := false, narrowed := true }
def CursorVisitsUptoSaid : Prop := cursorVisitsUptoRow.holds Tryz.pinned (OpenSpec.upto cursorVisitsSpec)

/-- 'quartolaw21.CursorLines', WHERE WHAT IT READS IS OF BULK AT MOST 1048576: true; the input reads as it did. -/
def cursorLinesUptoRow : OpenClaim := { program := "ytleajkoecgbnlaagreat", sum := "e1d69bc53af6eba2da82e1538765f760c52e354b4b8edd16d9c7f01aa35b3fdf", func := "quarto/quartolaw21.CursorLines", spec := "cursorLines", unfollowed := true, recurses := true, apart := false, narrowed := true }
def CursorLinesUptoSaid : Prop := cursorLinesUptoRow.holds Tryz.pinned (OpenSpec.upto cursorLinesSpec)

/-- 'quartolaw21.CursorTexts', WHERE WHAT IT READS IS OF BULK AT MOST 1048576: true; the input reads as it did. -/
def cursorTextsUptoRow : OpenClaim := { program := "ytleajkoecgbnlaagreat", sum := "e1d69bc53af6eba2da82e1538765f760c52e354b4b8edd16d9c7f01aa35b3fdf", func := "quarto/quartolaw21.CursorTexts", spec := "cursorTexts", unfollowed := true, recurses := true, apart := false, narrowed := true }
def CursorTextsUptoSaid : Prop := cursorTextsUptoRow.holds Tryz.pinned (OpenSpec.upto cursorTextsSpec)

/-- 'quartolaw21.CursorApart', WHERE WHAT IT READS IS OF BULK AT MOST 1048576: true; the input reads as it did. -/
def cursorApartUptoRow : OpenClaim := { program := "ytleajkoecgbnlaagreat", sum := "e1d69bc53af6eba2da82e1538765f760c52e354b4b8edd16d9c7f01aa35b3fdf", func := "quarto/quartolaw21.CursorApart", spec := "cursorApart", unfollowed := true, recurses := true, apart := false, narrowed := true }
def CursorApartUptoSaid : Prop := cursorApartUptoRow.holds Tryz.pinned (OpenSpec.upto cursorApartSpec)

/-- 'quartolaw22.ReachSets', WHERE WHAT IT READS IS OF BULK AT MOST 1048576: true; the input reads as it did. -/
def reachSetsUptoRow : OpenClaim := { program := "ytleajkoecgbnlaagreat", sum := "e1d69bc53af6eba2da82e1538765f760c52e354b4b8edd16d9c7f01aa35b3fdf", func := "quarto/quartolaw22.ReachSets", spec := "reachSets", unfollowed := true, recurses := true, apart := false, narrowed := true }
def ReachSetsUptoSaid : Prop := reachSetsUptoRow.holds Tryz.pinned (OpenSpec.upto reachSetsSpec)

/-- 'quartolaw22.ReachParts', WHERE WHAT IT READS IS OF BULK AT MOST 1048576: true; the input reads as it did. -/
def reachPartsUptoRow : OpenClaim := { program := "ytleajkoecgbnlaagreat", sum := "e1d69bc53af6eba2da82e1538765f760c52e354b4b8edd16d9c7f01aa35b3fdf", func := "quarto/quartolaw22.ReachParts", spec := "reachParts", unfollowed := true, recurses := true, apart := false, narrowed := true }
def ReachPartsUptoSaid : Prop := reachPartsUptoRow.holds Tryz.pinned (OpenSpec.upto reachPartsSpec)

end Rows
end Go.Proofs.YtleajkoecgbnlaaGreat
