/-
  No cell of these rows narrows 'for every input' (looked for: loops, veiled, ifaces, maps, wideKeys, modest, calm, conditions, laid).
  DERIVED. THE GIVEN ROWS OF THIS SEAT. 2 by the template 'for every input the law returns true; each argument reads behind the call as it read before'; 0 by the template 'total and deterministic' (their statements: YtnimnbffpkgadaaTotals.lean).
  GIVEN WITH THE SEED: the statements are not yours to turn. If you find one false, say at which input.
  Laid BY PROGRAM, IN A SANDBOX (cutbox-rows.mjs): the forced cells as the released guide's own fill.sh prints them over the translation 64d42bd33018b224… (all of the seat's roots in one cut). By AI agents, Wed Nov 11 2026. No macro, syntax, notation, axiom, sorry.
-/
import Derived.Test.YtnimnbffpkgadaaChecked
import GoSem.Claim
import GoSem.ClaimJoined
import GoSem.ClaimMapViews
import Derived.JoinedTies
import Derived.KernelRfl
namespace Go.Proofs.Ytnimnbffpkgadaa
/- THE CELL 'sum', in the pinned program and in every row, IS THE sha256 OF THE DUMP (.gsa) THAT YtnimnbffpkgadaaProg.lean LOADS. Nothing in Lean hashes anything: it is a label: what it is worth is what the hold of that sum in a sandbox is worth. -/
noncomputable def Try.pinned : Pinned := { name := "ytnimnbffpkgadaa", sum := "64d42bd33018b224ccc18372a7dc33193ddbca64077eb25e6aa2c78548d9a7ed", checked := Try.checked }
namespace Rows
def none {H : Type} : Left H := { results := [], args := [] }

/-- 'quartolaw15.PlanOwn': WHATEVER THE INPUT: true; the input reads as it did. -/
def planOwnSpec : ChangeSpec := { name := "planOwn", fn := fun _ => fun
  | [d1, d2, d3] => { results := [.lit (.bool true)], args := [d1, d2, d3] }
  | _ => none }
def planOwnRow : OpenClaim := { program := "ytnimnbffpkgadaa", sum := "64d42bd33018b224ccc18372a7dc33193ddbca64077eb25e6aa2c78548d9a7ed", func := "quarto/quartolaw15.PlanOwn", spec := "planOwn", unfollowed := true, recurses := true, apart := false }
def PlanOwnSaid : Prop := planOwnRow.holds Try.pinned (OpenSpec.ofChange planOwnSpec)

/-- ITS FALSE NEIGHBOUR: 'it returns false'. Refute it at one input. -/
def planOwnWrong : ChangeSpec := { name := "planOwn", fn := fun _ => fun
  | [d1, d2, d3] => { results := [.lit (.bool false)], args := [d1, d2, d3] }
  | _ => none }
def PlanOwnWrongFalsely : Prop := planOwnRow.holds Try.pinned (OpenSpec.ofChange planOwnWrong)

/-- 'quartolaw15.PlanPaths': WHATEVER THE INPUT: true; the input reads as it did. -/
def planPathsSpec : ChangeSpec := { name := "planPaths", fn := fun _ => fun
  | [d1, d2, d3, d4] => { results := [.lit (.bool true)], args := [d1, d2, d3, d4] }
  | _ => none }
def planPathsRow : OpenClaim := { program := "ytnimnbffpkgadaa", sum := "64d42bd33018b224ccc18372a7dc33193ddbca64077eb25e6aa2c78548d9a7ed", func := "quarto/quartolaw15.PlanPaths", spec := "planPaths", unfollowed := true, recurses := true, apart := false }
def PlanPathsSaid : Prop := planPathsRow.holds Try.pinned (OpenSpec.ofChange planPathsSpec)

/-- ITS FALSE NEIGHBOUR: 'it returns false'. Refute it at one input. -/
def planPathsWrong : ChangeSpec := { name := "planPaths", fn := fun _ => fun
  | [d1, d2, d3, d4] => { results := [.lit (.bool false)], args := [d1, d2, d3, d4] }
  | _ => none }
def PlanPathsWrongFalsely : Prop := planPathsRow.holds Try.pinned (OpenSpec.ofChange planPathsWrong)

/- THE SECOND FORM. 'bulk': how many values and letters a reading holds, each counted each time it is reached (what is shared counts as often as it is met; a slice's spare places count too). A statement '..UptoSaid' is the law's where the arguments, and the package variables that the reading takes, are together of bulk at most 1048576: NARROWER than '..Said'. Prove '..Said' where nothing that the law and all that it calls make is longer than what came in: it says more and counts as full. Else prove '..UptoSaid'. A law counts once. -/
mutual
def uptoBulk {H : Type} : DataW H → Nat
  | .lit (.string bytes) => bytes.length + 1
  | .lit _ => 1
  | .nil => 1
  | .ptr d => uptoBulk d + 1
  | .slice elems spare => uptoBulkAll elems + uptoBulkAll spare + 1
  | .agg parts => uptoBulkAll parts + 1
  | .iface _ d => uptoBulk d + 1
  | .map entries => uptoBulkEntries entries + 1
  | .held _ => 1
def uptoBulkAll {H : Type} : List (DataW H) → Nat
  | [] => 0
  | d :: r => uptoBulk d + uptoBulkAll r
def uptoBulkEntries {H : Type} : List (Lit × DataW H) → Nat
  | [] => 0
  | x :: r => uptoBulkEntry x + uptoBulkEntries r
def uptoBulkEntry {H : Type} : Lit × DataW H → Nat
  | (.string bytes, d) => bytes.length + uptoBulk d + 1
  | (_, d) => uptoBulk d + 1
 end
def uptoSmall : (H : Type) → List (DataW H) → Bool := fun _ ds => decide (uptoBulkAll ds ≤ 1048576)
def OpenSpec.upto (s : _root_.Go.ChangeSpec) : _root_.Go.OpenSpec := { _root_.Go.OpenSpec.ofChange s with cond := some uptoSmall }

/-- 'quartolaw15.PlanOwn', WHERE WHAT IT READS IS OF BULK AT MOST 1048576: true; the input reads as it did. -/
def planOwnUptoRow : OpenClaim := { program := "ytnimnbffpkgadaa", sum := "64d42bd33018b224ccc18372a7dc33193ddbca64077eb25e6aa2c78548d9a7ed", func := "quarto/quartolaw15.PlanOwn", spec := "planOwn", unfollowed := true, recurses := true, apart := false, narrowed := true }
def PlanOwnUptoSaid : Prop := planOwnUptoRow.holds Try.pinned (OpenSpec.upto planOwnSpec)

/-- 'quartolaw15.PlanPaths', WHERE WHAT IT READS IS OF BULK AT MOST 1048576: true; the input reads as it did. -/
def planPathsUptoRow : OpenClaim := { program := "ytnimnbffpkgadaa", sum := "64d42bd33018b224ccc18372a7dc33193ddbca64077eb25e6aa2c78548d9a7ed", func := "quarto/quartolaw15.PlanPaths", spec := "planPaths", unfollowed := true, recurses := true, apart := false, narrowed := true }
def PlanPathsUptoSaid : Prop := planPathsUptoRow.holds Try.pinned (OpenSpec.upto planPathsSpec)

end Rows
end Go.Proofs.Ytnimnbffpkgadaa
