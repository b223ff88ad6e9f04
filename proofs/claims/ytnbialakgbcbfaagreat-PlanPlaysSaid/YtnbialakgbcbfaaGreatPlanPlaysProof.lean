/- The given statement 'Rows.PlanPlaysSaid' is proved. No condition. The frame follows that of proof-skeleton.mjs. -/
import Derived.Test.YtnbialakgbcbfaaGreatRows
import Derived.Test.YtnbialakgbcbfaaGreatPlTR
import Derived.WalkKit
import Derived.ProofKit
import Derived.OpenShut
import Derived.ShutString
import Derived.Below
import Derived.Carry
import Derived.HandedShaped
import Derived.Shelf.Vars
namespace Go.Proofs.YtnbialakgbcbfaaGreat.planPlays
open Go Go.QAbs
open Go.ChangeShapes Go.WideShapes Go.ChangeAt Go.RowKit
open Go.ChangeMaps (open_string shut_string)
set_option linter.unusedVariables false

theorem own : ownKnob Tryz.prog.godebug = none := by kernel_rfl

theorem cells134 : Tryz.prog.cellsOf 134 = 4 := by kernel_rfl
theorem cells3 : Tryz.prog.cellsOf 3 = 1 := by kernel_rfl
theorem cells5 : Tryz.prog.cellsOf 5 = 1 := by kernel_rfl
theorem cells9 : Tryz.prog.cellsOf 9 = 1 := by kernel_rfl
theorem laidOut : laidOutB Tryz.prog = true := by kernel_rfl
theorem walk (a0 : List (List UInt8)) (x0 : Value) (a1 : List (Nat × Int × Int × List UInt8)) (x1 : Value) (w0 : (∀ s ∈ a0, s.length ≤ maxLen) ∧ a0.length ≤ maxLen) (w1 : (∀ s ∈ a1, s.2.2.2.length ≤ maxLen) ∧ a1.length ≤ maxLen) (w : World) (hg : KG Tryz.prog w (.of w)) (r0 : R (cx .empty rho0 w 0) (.lit (a0.map .str)) x0) (r1 : R (cx .empty rho0 w 0) (.lit (a1.map fun q => .agg [.int .u8 q.1, .int .i64 q.2.1, .int .i64 q.2.2.1, .str q.2.2.2])) x1) :
    Calls Tryz.prog 3 #[x0, x1] w fun e w' => e = .returned (.bool true) ∧ Below w.heap.size w w' :=
  walk_in (xs := [x0, x1]) (by kernel_rfl) Go.Q15.Tb_ok (Go.Q15.planPlays_run a0 a1 w0.1 w0.2 w1.1 w1.2) hg (.cons r0 (.cons r1 (.nil _)))

theorem globs {W : World} (h : W.ShapedOpen Tryz.prog) : KG Tryz.prog W (.of W) := fun g hg => by
  obtain rfl : 0 = g := Option.some.inj ((by kernel_rfl : Tryz.prog.globalNamed "internal/bytealg.MaxLen" = some 0).symm.trans hg)
  obtain ⟨m, hm⟩ := Go.Proofs.cell_of_shapedOpen_int (k := .i64) (t := 3) (zero := #[.int .i64 0]) h (of_decide_eq_true (by kernel_rfl)) (by kernel_rfl) rfl (by kernel_rfl) (by kernel_rfl) (by kernel_rfl)
  exact ⟨m, hm, World.block_lt_of_cell? (a := ⟨0, 0, none⟩) (w := W) hm⟩

set_option maxRecDepth 100000 in
theorem lifted (os : Os) (started : os.Started) (H : Type) (enc : TypeId × Value → H) :
    ReturnsInHanded {} Tryz.checked os 3 .any (Rows.planPlaysSpec.pre6 enc Tryz.prog Tryz.f3 Rows.planPlaysRow.domain false) (Rows.planPlaysSpec.post enc Tryz.prog Tryz.f3 false true false false) := by
  refine returnsInHanded_of_change_shaped (C := Tryz.checked) own started (by kernel_rfl) Tryz.func3
    (ChangeSpec.witness6 (enc := enc) (C := Tryz.checked) false ⟨#[], #[.slice none 0 0, .slice none 0 0], []⟩ 8 (by kernel_rfl) (by kernel_rfl) (by kernel_rfl) (by kernel_rfl)) ?_
  intro W base args ds gs before hval0 hW hcnd _ hsh _
  have hval : ∀ (j : Nat) t v, Tryz.f3.params[j]? = some t → args[j]? = some v → Value.okWide Tryz.prog W .any base t v := hval0
  have hW' := hW
  obtain ⟨p, q, hA0, hV, rfl, hfz, hnd⟩ := hW
  have hA : DataW.TrodAll enc Tryz.prog W 0 (fun _ => true) true Tryz.f3.params.toList args.toList ds p := hA0
  rw [Tryz.params3] at hA hval
  obtain ⟨v0, vs0, d0, ds0, p0, q0, hargs, rfl, rfl, h0, r0⟩ := trodAll_cons hA
  obtain ⟨v1, vs1, d1, ds1, p1, q1, rfl, rfl, rfl, h1, r1⟩ := trodAll_cons r0
  obtain ⟨rfl, rfl, rfl⟩ := trodAll_nil r1
  obtain rfl : args = #[v0, v1] := by cases args; simp_all
  obtain ⟨rfl, rfl⟩ := trodVars_none hV
  obtain ⟨a0, wa0, wb0, rr0⟩ := open_strs_arg Tryz.underlying22 Tryz.underlying9 cells9 (hval 0 22 v0 rfl rfl) h0
  obtain ⟨a1, wa1, wb1, rr1⟩ := open_steps_arg Tryz.underlying23 Tryz.underlying134 cells134 ⟨rfl, rfl, Tryz.underlying5, cells5⟩ ⟨rfl, rfl, Tryz.underlying3, cells3⟩ ⟨rfl, rfl, Tryz.underlying3, cells3⟩ ⟨rfl, rfl, Tryz.underlying9, cells9⟩ (hval 1 23 v1 rfl rfl) h1
  clear hA0 hval0
  simp only [List.append_nil] at hW'
  have hlt0 : ∀ x ∈ p0, x.block < W.heap.size := fun x hx => hW'.lt x (by simp [hx])
  have hlt1 : ∀ x ∈ p1, x.block < W.heap.size := fun x hx => hW'.lt x (by simp [hx])
  refine (walk a0 v0 a1 v1 ⟨wa0, wb0⟩ ⟨wa1, wb1⟩ W (globs hsh) rr0 rr1).mono fun e W' ⟨he, bel⟩ => ?_
  subst he
  exact ⟨_, rfl, _, _, _, [], _, [], hW', trodAll_mk1 (shut_bool Tryz.underlying4 _), (trodAll_cons_mk (Below.trod laidOut (by kernel_rfl) (of_decide_eq_true (by kernel_rfl)) h0 bel hlt0) (trodAll_cons_mk (Below.trod laidOut (by kernel_rfl) (of_decide_eq_true (by kernel_rfl)) h1 bel hlt1) trodAll_mk0)), rfl, bel.frame _, fun h => by cases h⟩

theorem over : Rows.planPlaysRow.holds Tryz.pinned (OpenSpec.ofChange Rows.planPlaysSpec) :=
  OpenClaim.holds_of_wide 3 Tryz.f3 rfl rfl rfl rfl rfl rfl rfl ⟨rfl, rfl, rfl, rfl, rfl⟩ rfl rfl rfl rfl rfl (by kernel_rfl) Tryz.func3 (by kernel_rfl)
    (of_decide_eq_true (by kernel_rfl)) (by unfold Func.isWrapper; first | (rw [if_pos (by decide +kernel)]; kernel_rfl) | (rw [if_neg (by decide +kernel)]; exact ⟨rfl, rfl⟩))
    (fun os started H enc _ => lifted os started H enc)

/-- THE STATEMENT. -/
theorem proved : Rows.PlanPlaysSaid :=
  over
#print axioms proved
end Go.Proofs.YtnbialakgbcbfaaGreat.planPlays
