/-
  No cell of these rows narrows 'for every input' (looked for: loops, veiled, ifaces, maps, wideKeys, modest, calm, conditions, laid).
  DERIVED. THE GIVEN ROWS OF THIS SEAT. 4 by the template 'for every input the law returns true; each argument reads behind the call as it read before'; 0 by the template 'total and deterministic' (their statements: YtbmllhocajbcfaaGreatTotals.lean).
  GIVEN WITH THE SEED: the statements are not yours to turn. If you find one false, say at which input.
  Laid BY PROGRAM, IN A SANDBOX (cutbox-rows.mjs): the forced cells as the released guide's own fill.sh prints them over the translation c406a53a527570fb… (all of the seat's roots in one cut). By AI agents, Wed Nov 11 2026. No macro, syntax, notation, axiom, sorry.
-/
import Derived.Test.YtbmllhocajbcfaaGreatChecked
import GoSem.Claim
import GoSem.ClaimJoined
import GoSem.ClaimMapViews
import Derived.JoinedTies
import Derived.KernelRfl
namespace Go.Proofs.YtbmllhocajbcfaaGreat
/- THE CELL 'sum', in the pinned program and in every row, IS THE sha256 OF THE DUMP (.gsa) THAT YtbmllhocajbcfaaGreatProg.lean LOADS. Nothing in Lean hashes anything: it is a label: what it is worth is what the hold of that sum in a sandbox is worth. -/
noncomputable def Tryz.pinned : Pinned := { name := "ytbmllhocajbcfaagreat", sum := "c406a53a527570fbe0f69857ed9ae4824a3930517ca294023331d4548c07a12c", checked := Tryz.checked }
namespace Rows
def none {H : Type} : Left H := { results := [], args := [] }

/-- 'quartolaw15.PlanDrops': WHATEVER THE INPUT: true; the input reads as it did. -/
def planDropsSpec : ChangeSpec := { name := "planDrops", fn := fun _ => fun
  | [d1, d2] => { results := [.lit (.bool true)], args := [d1, d2] }
  | _ => none }
def planDropsRow : OpenClaim := { program := "ytbmllhocajbcfaagreat", sum := "c406a53a527570fbe0f69857ed9ae4824a3930517ca294023331d4548c07a12c", func := "quarto/quartolaw15.PlanDrops", spec := "planDrops", unfollowed := true, recurses := true, apart := false }
def PlanDropsSaid : Prop := planDropsRow.holds Tryz.pinned (OpenSpec.ofChange planDropsSpec)

/-- ITS FALSE NEIGHBOUR: 'it returns false'. Refute it at one input. -/
def planDropsWrong : ChangeSpec := { name := "planDrops", fn := fun _ => fun
  | [d1, d2] => { results := [.lit (.bool false)], args := [d1, d2] }
  | _ => none }
def PlanDropsWrongFalsely : Prop := planDropsRow.holds Tryz.pinned (OpenSpec.ofChange planDropsWrong)

/-- 'quartolaw17.SeekBack': WHATEVER THE INPUT: true; the input reads as it did. -/
def seekBackSpec : ChangeSpec := { name := "seekBack", fn := fun _ => fun
  | [d1, d2, d3, d4] => { results := [.lit (.bool true)], args := [d1, d2, d3, d4] }
  | _ => none }
def seekBackRow : OpenClaim := { program := "ytbmllhocajbcfaagreat", sum := "c406a53a527570fbe0f69857ed9ae4824a3930517ca294023331d4548c07a12c", func := "quarto/quartolaw17.SeekBack", spec := "seekBack", unfollowed := true, recurses := true, apart := false }
def SeekBackSaid : Prop := seekBackRow.holds Tryz.pinned (OpenSpec.ofChange seekBackSpec)

/-- ITS FALSE NEIGHBOUR: 'it returns false'. Refute it at one input. -/
def seekBackWrong : ChangeSpec := { name := "seekBack", fn := fun _ => fun
  | [d1, d2, d3, d4] => { results := [.lit (.bool false)], args := [d1, d2, d3, d4] }
  | _ => none }
def SeekBackWrongFalsely : Prop := seekBackRow.holds Tryz.pinned (OpenSpec.ofChange seekBackWrong)

/-- 'quartolaw17.SeekAlike': WHATEVER THE INPUT: true; the input reads as it did. -/
def seekAlikeSpec : ChangeSpec := { name := "seekAlike", fn := fun _ => fun
  | [d1, d2, d3, d4] => { results := [.lit (.bool true)], args := [d1, d2, d3, d4] }
  | _ => none }
def seekAlikeRow : OpenClaim := { program := "ytbmllhocajbcfaagreat", sum := "c406a53a527570fbe0f69857ed9ae4824a3930517ca294023331d4548c07a12c", func := "quarto/quartolaw17.SeekAlike", spec := "seekAlike", unfollowed := true, recurses := true, apart := false }
def SeekAlikeSaid : Prop := seekAlikeRow.holds Tryz.pinned (OpenSpec.ofChange seekAlikeSpec)

/-- ITS FALSE NEIGHBOUR: 'it returns false'. Refute it at one input. -/
def seekAlikeWrong : ChangeSpec := { name := "seekAlike", fn := fun _ => fun
  | [d1, d2, d3, d4] => { results := [.lit (.bool false)], args := [d1, d2, d3, d4] }
  | _ => none }
def SeekAlikeWrongFalsely : Prop := seekAlikeRow.holds Tryz.pinned (OpenSpec.ofChange seekAlikeWrong)

/-- 'quartolaw19.EditShares': WHATEVER THE INPUT: true; the input reads as it did. -/
def editSharesSpec : ChangeSpec := { name := "editShares", fn := fun _ => fun
  | [d1, d2, d3, d4, d5] => { results := [.lit (.bool true)], args := [d1, d2, d3, d4, d5] }
  | _ => none }
def editSharesRow : OpenClaim := { program := "ytbmllhocajbcfaagreat", sum := "c406a53a527570fbe0f69857ed9ae4824a3930517ca294023331d4548c07a12c", func := "quarto/quartolaw19.EditShares", spec := "editShares", unfollowed := true, recurses := true, apart := false }
def EditSharesSaid : Prop := editSharesRow.holds Tryz.pinned (OpenSpec.ofChange editSharesSpec)

/-- ITS FALSE NEIGHBOUR: 'it returns false'. Refute it at one input. -/
def editSharesWrong : ChangeSpec := { name := "editShares", fn := fun _ => fun
  | [d1, d2, d3, d4, d5] => { results := [.lit (.bool false)], args := [d1, d2, d3, d4, d5] }
  | _ => none }
def EditSharesWrongFalsely : Prop := editSharesRow.holds Tryz.pinned (OpenSpec.ofChange editSharesWrong)

/- THE SECOND FORM. 'bulk': how many values and letters a reading holds, each counted each time it is reached (what is shared counts as often as it is met; a slice's spare places count too). A statement '..UptoSaid' is the law's where the arguments, and the package variables that the reading takes, are together of bulk at most 1048576: NARROWER than '..Said'. Prove '..Said' where nothing that the law and all that it calls make is longer than what came in: it says more and counts as full. Else prove '..UptoSaid'. A law counts once. -/
mutual
def uptoBulk {H : Type} : DataW H → Nat
  | .lit (.string bytes) => bytes.length + 1
  | .lit _ => 1
  | .nil => 1
  | .ptr d => uptoBulk d + 1
  | .slice elems spare => uptoBulkAll elems + uptoBulkAll spare + 1
  | .agg parts => uptoBulkAll parts + 1
  | .iface _ d => uptoBulk d + 1
  | .map entries => uptoBulkEntries entries + 1
  | .held _ => 1
def uptoBulkAll {H : Type} : List (DataW H) → Nat
  | [] => 0
  | d :: r => uptoBulk d + uptoBulkAll r
def uptoBulkEntries {H : Type} : List (Lit × DataW H) → Nat
  | [] => 0
  | x :: r => uptoBulkEntry x + uptoBulkEntries r
def uptoBulkEntry {H : Type} : Lit × DataW H → Nat
  | (.string bytes, d) => bytes.length + uptoBulk d + 1
  | (_, d) => uptoBulk d + 1
 end
def uptoSmall : (H : Type) → List (DataW H) → Bool := fun _ ds => decide (uptoBulkAll ds ≤ 1048576)
def OpenSpec.upto (s : _root_.Go.ChangeSpec) : _root_.Go.OpenSpec := { _root_.Go.OpenSpec.ofChange s with cond := some uptoSmall }

/-- 'quartolaw15.PlanDrops', WHERE WHAT IT READS IS OF BULK AT MOST 1048576: true; the input reads as it did. -/
def planDropsUptoRow : OpenClaim := { program := "ytbmllhocajbcfaagreat", sum := "c406a53a527570fbe0f69857ed9ae4824a3930517ca294023331d4548c07a12c", func := "quarto/quartolaw15.PlanDrops", spec := "planDrops", unfollowed := true, recurses := true, apart := false, narrowed := true }
def PlanDropsUptoSaid : Prop := planDropsUptoRow.holds Tryz.pinned (OpenSpec.upto planDropsSpec)

/-- 'quartolaw17.SeekBack', WHERE WHAT IT READS IS OF BULK AT MOST 1048576: true; the input reads as it did. -/
def seekBackUptoRow : OpenClaim := { program := "ytbmllhocajbcfaagreat", sum := "c406a53a527570fbe0f69857ed9ae4824a3930517ca294023331d4548c07a12c", func := "quarto/quartolaw17.SeekBack", spec := "seekBack", unfollowed := true, recurses := true, apart := false, narrowed := true }
def SeekBackUptoSaid : Prop := seekBackUptoRow.holds Tryz.pinned (OpenSpec.upto seekBackSpec)

/-- 'quartolaw17.SeekAlike', WHERE WHAT IT READS IS OF BULK AT MOST 1048576: true; the input reads as it did. -/
def seekAlikeUptoRow : OpenClaim := { program := "ytbmllhocajbcfaagreat", sum := "c406a53a527570fbe0f69857ed9ae4824a3930517ca294023331d4548c07a12c", func := "quarto/quartolaw17.SeekAlike", spec := "seekAlike", unfollowed := true, recurses := true, apart := false, narrowed := true }
def SeekAlikeUptoSaid : Prop := seekAlikeUptoRow.holds Tryz.pinned (OpenSpec.upto seekAlikeSpec)

/-- 'quartolaw19.EditShares', WHERE WHAT IT READS IS OF BULK AT MOST 1048576: true; the input reads as it did. -/
def editSharesUptoRow : OpenClaim := { program := "ytbmllhocajbcfaagreat", sum := "c406a53a527570fbe0f69857ed9ae4824a3930517ca294023331d4548c07a12c", func := "quarto/quartolaw19.EditShares", spec := "editShares", unfollowed := true, recurses := true, apart := false, narrowed := true }
def EditSharesUptoSaid : Prop := editSharesUptoRow.holds Tryz.pinned (OpenSpec.upto editSharesSpec)

end Rows
end Go.Proofs.YtbmllhocajbcfaaGreat
