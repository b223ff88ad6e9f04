/-
  No cell of these rows narrows 'for every input' (looked for: loops, veiled, ifaces, maps, wideKeys, modest, calm, conditions, laid).
  DERIVED. THE GIVEN ROWS OF THIS SEAT. 4 by the template 'for every input the law returns true; each argument reads behind the call as it read before'; 0 by the template 'total and deterministic' (their statements: YtcdebbidfgmieaaGreatTotals.lean).
  GIVEN WITH THE SEED: the statements are not yours to turn. If you find one false, say at which input.
  Laid BY PROGRAM, IN A SANDBOX (cutbox-rows.mjs): the forced cells as the released guide's own fill.sh prints them over the translation 46d87334254bfa64… (all of the seat's roots in one cut). By AI agents, Wed Nov 11 2026. No macro, syntax, notation, axiom, sorry.
-/
import Derived.Test.YtcdebbidfgmieaaGreatChecked
import GoSem.Claim
import GoSem.ClaimJoined
import GoSem.ClaimMapViews
import Derived.JoinedTies
import Derived.KernelRfl
namespace Go.Proofs.YtcdebbidfgmieaaGreat
/- THE CELL 'sum', in the pinned program and in every row, IS THE sha256 OF THE DUMP (.gsa) THAT YtcdebbidfgmieaaGreatProg.lean LOADS. Nothing in Lean hashes anything: it is a label: what it is worth is what the hold of that sum in a sandbox is worth. -/
noncomputable def Tryz.pinned : Pinned := { name := "ytcdebbidfgmieaagreat", sum := "46d87334254bfa6404adf5b2fd72431146a637beb9b3394caf2c99d5d4f34f50", checked := Tryz.checked }
namespace Rows
def none {H : Type} : Left H := { results := [], args := [] }

/-- 'quartolaw20.PatchShares': WHATEVER THE INPUT: true; the input reads as it did. -/
def patchSharesSpec : ChangeSpec := { name := "patchShares", fn := fun _ => fun
  | [d1, d2, d3, d4, d5, d6] => { results := [.lit (.bool true)], args := [d1, d2, d3, d4, d5, d6] }
  | _ => none }
def patchSharesRow : OpenClaim := { program := "ytcdebbidfgmieaagreat", sum := "46d87334254bfa6404adf5b2fd72431146a637beb9b3394caf2c99d5d4f34f50", func := "quarto/quartolaw20.PatchShares", spec := "patchShares", unfollowed := true, recurses := true, apart := false }
def PatchSharesSaid : Prop := patchSharesRow.holds Tryz.pinned (OpenSpec.ofChange patchSharesSpec)

/-- ITS FALSE NEIGHBOUR: 'it returns false'. Refute it at one input. -/
def patchSharesWrong : ChangeSpec := { name := "patchShares", fn := fun _ => fun
  | [d1, d2, d3, d4, d5, d6] => { results := [.lit (.bool false)], args := [d1, d2, d3, d4, d5, d6] }
  | _ => none }
def PatchSharesWrongFalsely : Prop := patchSharesRow.holds Tryz.pinned (OpenSpec.ofChange patchSharesWrong)

/-- 'quartolaw22.ReachSets': WHATEVER THE INPUT: true; the input reads as it did. -/
def reachSetsSpec : ChangeSpec := { name := "reachSets", fn := fun _ => fun
  | [d1, d2, d3, d4, d5] => { results := [.lit (.bool true)], args := [d1, d2, d3, d4, d5] }
  | _ => none }
def reachSetsRow : OpenClaim := { program := "ytcdebbidfgmieaagreat", sum := "46d87334254bfa6404adf5b2fd72431146a637beb9b3394caf2c99d5d4f34f50", func := "quarto/quartolaw22.ReachSets", spec := "reachSets", unfollowed := true, recurses := true, apart := false }
def ReachSetsSaid : Prop := reachSetsRow.holds Tryz.pinned (OpenSpec.ofChange reachSetsSpec)

/-- ITS FALSE NEIGHBOUR: 'it returns false'. Refute it at one input. -/
def reachSetsWrong : ChangeSpec := { name := "reachSets", fn := fun _ => fun
  | [d1, d2, d3, d4, d5] => { results := [.lit (.bool false)], args := [d1, d2, d3, d4, d5] }
  | _ => none }
def ReachSetsWrongFalsely : Prop := reachSetsRow.holds Tryz.pinned (OpenSpec.ofChange reachSetsWrong)

/-- 'quartolaw22.ReachParts': WHATEVER THE INPUT: true; the input reads as it did. -/
def reachPartsSpec : ChangeSpec := { name := "reachParts", fn := fun _ => fun
  | [d1, d2, d3, d4] => { results := [.lit (.bool true)], args := [d1, d2, d3, d4] }
  | _ => none }
def reachPartsRow : OpenClaim := { program := "ytcdebbidfgmieaagreat", sum := "46d87334254bfa6404adf5b2fd72431146a637beb9b3394caf2c99d5d4f34f50", func := "quarto/quartolaw22.ReachParts", spec := "reachParts", unfollowed := true, recurses := true, apart := false }
def ReachPartsSaid : Prop := reachPartsRow.holds Tryz.pinned (OpenSpec.ofChange reachPartsSpec)

/-- ITS FALSE NEIGHBOUR: 'it returns false'. Refute it at one input. -/
def reachPartsWrong : ChangeSpec := { name := "reachParts", fn := fun _ => fun
  | [d1, d2, d3, d4] => { results := [.lit (.bool false)], args := [d1, d2, d3, d4] }
  | _ => none }
def ReachPartsWrongFalsely : Prop := reachPartsRow.holds Tryz.pinned (OpenSpec.ofChange reachPartsWrong)

/-- 'quartolaw22.ReachEdits': WHATEVER THE INPUT: true; the input reads as it did. -/
def reachEditsSpec : ChangeSpec := { name := "reachEdits", fn := fun _ => fun
  | [d1, d2, d3, d4, d5, d6] => { results := [.lit (.bool true)], args := [d1, d2, d3, d4, d5, d6] }
  | _ => none }
def reachEditsRow : OpenClaim := { program := "ytcdebbidfgmieaagreat", sum := "46d87334254bfa6404adf5b2fd72431146a637beb9b3394caf2c99d5d4f34f50", func := "quarto/quartolaw22.ReachEdits", spec := "reachEdits", unfollowed := true, recurses := true, apart := false }
def ReachEditsSaid : Prop := reachEditsRow.holds Tryz.pinned (OpenSpec.ofChange reachEditsSpec)

/-- ITS FALSE NEIGHBOUR: 'it returns false'. Refute it at one input. -/
def reachEditsWrong : ChangeSpec := { name := "reachEdits", fn := fun _ => fun
  | [d1, d2, d3, d4, d5, d6] => { results := [.lit (.bool false)], args := [d1, d2, d3, d4, d5, d6] }
  | _ => none }
def ReachEditsWrongFalsely : Prop := reachEditsRow.holds Tryz.pinned (OpenSpec.ofChange reachEditsWrong)

/- THE SECOND FORM. 'bulk': how many values and letters a reading holds, each counted each time it is reached (what is shared counts as often as it is met; a slice's spare places count too). A statement '..UptoSaid' is the law's where the arguments, and the package variables that the reading takes, are together of bulk at most 1048576: NARROWER than '..Said'. Prove '..Said' where nothing that the law and all that it calls make is longer than what came in: it says more and counts as full. Else prove '..UptoSaid'. A law counts once. -/
mutual
def uptoBulk {H : Type} : DataW H → Nat
  | .lit (.string bytes) => bytes.length + 1
  | .lit _ => 1
  | .nil => 1
  | .ptr d => uptoBulk d + 1
  | .slice elems spare => uptoBulkAll elems + uptoBulkAll spare + 1
  | .agg parts => uptoBulkAll parts + 1
  | .iface _ d => uptoBulk d + 1
  | .map entries => uptoBulkEntries entries + 1
  | .held _ => 1
def uptoBulkAll {H : Type} : List (DataW H) → Nat
  | [] => 0
  | d :: r => uptoBulk d + uptoBulkAll r
def uptoBulkEntries {H : Type} : List (Lit × DataW H) → Nat
  | [] => 0
  | x :: r => uptoBulkEntry x + uptoBulkEntries r
def uptoBulkEntry {H : Type} : Lit × DataW H → Nat
  | (.string bytes, d) => bytes.length + uptoBulk d + 1
  | (_, d) => uptoBulk d + 1
 end
def uptoSmall : (H : Type) → List (DataW H) → Bool := fun _ ds => decide (uptoBulkAll ds ≤ 1048576)
def OpenSpec.upto (s : _root_.Go.ChangeSpec) : _root_.Go.OpenSpec := { _root_.Go.OpenSpec.ofChange s with cond := some uptoSmall }

/-- 'quartolaw20.PatchShares', WHERE WHAT IT READS IS OF BULK AT MOST 1048576: true; the input reads as it did. -/
def patchSharesUptoRow : OpenClaim := { program := "ytcdebbidfgmieaagreat", sum := "46d87334254bfa6404adf5b2fd72431146a637beb9b3394caf2c99d5d4f34f50", func := "quarto/quartolaw20.PatchShares", spec := "patchShares", unfollowed := true, recurses := true, apart := false, narrowed := true }
def PatchSharesUptoSaid : Prop := patchSharesUptoRow.holds Tryz.pinned (OpenSpec.upto patchSharesSpec)

/-- 'quartolaw22.ReachSets', WHERE WHAT IT READS IS OF BULK AT MOST 1048576: true; the input reads as it did. -/
def reachSetsUptoRow : OpenClaim := { program := "ytcdebbidfgmieaagreat", sum := "46d87334254bfa6404adf5b2fd72431146a637beb9b3394caf2c99d5d4f34f50", func := "quarto/quartolaw22.ReachSets", spec := "reachSets", unfollowed := true, recurses := true, apart := false, narrowed := true }
def ReachSetsUptoSaid : Prop := reachSetsUptoRow.holds Tryz.pinned (OpenSpec.upto reachSetsSpec)

/-- 'quartolaw22.ReachParts', WHERE WHAT IT READS IS OF BULK AT MOST 1048576: true; the input reads as it did. -/
def reachPartsUptoRow : OpenClaim := { program := "ytcdebbidfgmieaagreat", sum := "46d87334254bfa6404adf5b2fd72431146a637beb9b3394caf2c99d5d4f34f50", func := "quarto/quartolaw22.ReachParts", spec := "reachParts", unfollowed := true, recurses := true, apart := false, narrowed := true }
def ReachPartsUptoSaid : Prop := reachPartsUptoRow.holds Tryz.pinned (OpenSpec.upto reachPartsSpec)

/-- 'quartolaw22.ReachEdits', WHERE WHAT IT READS IS OF BULK AT MOST 1048576: true; the input reads as it did. -/
def reachEditsUptoRow : OpenClaim := { program := "ytcdebbidfgmieaagreat", sum := "46d87334254bfa6404adf5b2fd72431146a637beb9b3394caf2c99d5d4f34f50", func := "quarto/quartolaw22.ReachEdits", spec := "reachEdits", unfollowed := true, recurses := true, apart := false, narrowed := true }
def ReachEditsUptoSaid : Prop := reachEditsUptoRow.holds Tryz.pinned (OpenSpec.upto reachEditsSpec)

end Rows
end Go.Proofs.YtcdebbidfgmieaaGreat
