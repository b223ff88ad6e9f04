/- The given statement 'Rows.SeekAlikeSaid' is proved. No condition. The frame follows that of proof-skeleton.mjs. -/
import Derived.Test.YtnbialakgbcbfaaGreatRows
import Derived.Test.YtnbialakgbcbfaaGreatSaTR
import Derived.WalkKit
import Derived.ProofKit
import Derived.OpenShut
import Derived.ShutString
import Derived.Below
import Derived.Carry
import Derived.HandedShaped
import Derived.Shelf.Vars
namespace Go.Proofs.YtnbialakgbcbfaaGreat.seekAlike
open Go Go.QAbs
open Go.ChangeShapes Go.WideShapes Go.ChangeAt Go.RowKit
open Go.ChangeMaps (open_string shut_string)
set_option linter.unusedVariables false

theorem own : ownKnob Tryz.prog.godebug = none := by kernel_rfl

theorem cells192 : Tryz.prog.cellsOf 192 = 5 := by kernel_rfl
theorem cells3 : Tryz.prog.cellsOf 3 = 1 := by kernel_rfl
theorem cells5 : Tryz.prog.cellsOf 5 = 1 := by kernel_rfl
theorem cells9 : Tryz.prog.cellsOf 9 = 1 := by kernel_rfl
theorem laidOut : laidOutB Tryz.prog = true := by kernel_rfl
theorem walk (a0 : List (List UInt8)) (x0 : Value) (a1 : List (Nat × Int × Int × Int × List UInt8)) (x1 : Value) (a2 : Int) (a3 : List Int) (x3 : Value) (w0 : (∀ s ∈ a0, s.length ≤ maxLen) ∧ a0.length ≤ maxLen) (w1 : (∀ s ∈ a1, s.2.2.2.2.length ≤ maxLen) ∧ a1.length ≤ maxLen) (w2 : (Lit.int .i64 a2).wf = true) (w3 : a3.length ≤ maxLen) (w : World) (hg : KG Tryz.prog w (.of w)) (r0 : R (cx .empty rho0 w 0) (.lit (a0.map .str)) x0) (r1 : R (cx .empty rho0 w 0) (.lit (a1.map fun q => .agg [.int .u8 q.1, .int .i64 q.2.1, .int .i64 q.2.2.1, .int .i64 q.2.2.2.1, .str q.2.2.2.2])) x1) (r3 : R (cx .empty rho0 w 0) (.lit (a3.map (.int .i64))) x3) :
    Calls Tryz.prog 5 #[x0, x1, .int .i64 a2, x3] w fun e w' => e = .returned (.bool true) ∧ Below w.heap.size w w' :=
  walk_in (xs := [x0, x1, .int .i64 a2, x3]) (by kernel_rfl) Go.Q15.Tb_ok (Go.Q15.seekAlike_run a0 a1 a2 a3 w0.1 w0.2 w1.1 w1.2 w2 w3) hg (.cons r0 (.cons r1 (.cons (.int _ _) (.cons r3 (.nil _)))))

theorem globs {W : World} (h : W.ShapedOpen Tryz.prog) : KG Tryz.prog W (.of W) := fun g hg => by
  obtain rfl : 0 = g := Option.some.inj ((by kernel_rfl : Tryz.prog.globalNamed "internal/bytealg.MaxLen" = some 0).symm.trans hg)
  obtain ⟨m, hm⟩ := Go.Proofs.cell_of_shapedOpen_int (k := .i64) (t := 3) (zero := #[.int .i64 0]) h (of_decide_eq_true (by kernel_rfl)) (by kernel_rfl) rfl (by kernel_rfl) (by kernel_rfl) (by kernel_rfl)
  exact ⟨m, hm, World.block_lt_of_cell? (a := ⟨0, 0, none⟩) (w := W) hm⟩

set_option maxRecDepth 100000 in
theorem lifted (os : Os) (started : os.Started) (H : Type) (enc : TypeId × Value → H) :
    ReturnsInHanded {} Tryz.checked os 5 .any (Rows.seekAlikeSpec.pre6 enc Tryz.prog Tryz.f5 Rows.seekAlikeRow.domain false) (Rows.seekAlikeSpec.post enc Tryz.prog Tryz.f5 false true false false) := by
  refine returnsInHanded_of_change_shaped (C := Tryz.checked) own started (by kernel_rfl) Tryz.func5
    (ChangeSpec.witness6 (enc := enc) (C := Tryz.checked) false ⟨#[], #[.slice none 0 0, .slice none 0 0, .int .i64 0, .slice none 0 0], []⟩ 8 (by kernel_rfl) (by kernel_rfl) (by kernel_rfl) (by kernel_rfl)) ?_
  intro W base args ds gs before hval0 hW hcnd _ hsh _
  have hval : ∀ (j : Nat) t v, Tryz.f5.params[j]? = some t → args[j]? = some v → Value.okWide Tryz.prog W .any base t v := hval0
  have hW' := hW
  obtain ⟨p, q, hA0, hV, rfl, hfz, hnd⟩ := hW
  have hA : DataW.TrodAll enc Tryz.prog W 0 (fun _ => true) true Tryz.f5.params.toList args.toList ds p := hA0
  rw [Tryz.params5] at hA hval
  obtain ⟨v0, vs0, d0, ds0, p0, q0, hargs, rfl, rfl, h0, r0⟩ := trodAll_cons hA
  obtain ⟨v1, vs1, d1, ds1, p1, q1, rfl, rfl, rfl, h1, r1⟩ := trodAll_cons r0
  obtain ⟨v2, vs2, d2, ds2, p2, q2, rfl, rfl, rfl, h2, r2⟩ := trodAll_cons r1
  obtain ⟨v3, vs3, d3, ds3, p3, q3, rfl, rfl, rfl, h3, r3⟩ := trodAll_cons r2
  obtain ⟨rfl, rfl, rfl⟩ := trodAll_nil r3
  obtain rfl : args = #[v0, v1, v2, v3] := by cases args; simp_all
  obtain ⟨rfl, rfl⟩ := trodVars_none hV
  obtain ⟨a0, wa0, wb0, rr0⟩ := open_strs_arg Tryz.underlying22 Tryz.underlying9 cells9 (hval 0 22 v0 rfl rfl) h0
  obtain ⟨a1, wa1, wb1, rr1⟩ := open_ops_arg Tryz.underlying60 Tryz.underlying192 cells192 ⟨rfl, rfl, Tryz.underlying5, cells5⟩ ⟨rfl, rfl, Tryz.underlying3, cells3⟩ ⟨rfl, rfl, Tryz.underlying3, cells3⟩ ⟨rfl, rfl, Tryz.underlying3, cells3⟩ ⟨rfl, rfl, Tryz.underlying9, cells9⟩ (hval 1 60 v1 rfl rfl) h1
  obtain ⟨a2, rfl, rfl, rfl, w2⟩ := open_int Tryz.underlying3 (hval 2 3 v2 rfl rfl) h2
  obtain ⟨a3, wa3, rr3⟩ := open_ints_arg Tryz.underlying63 Tryz.underlying3 cells3 (hval 3 63 v3 rfl rfl) h3
  clear hA0 hval0
  simp only [List.append_nil] at hW'
  have hlt0 : ∀ x ∈ p0, x.block < W.heap.size := fun x hx => hW'.lt x (by simp [hx])
  have hlt1 : ∀ x ∈ p1, x.block < W.heap.size := fun x hx => hW'.lt x (by simp [hx])
  have hlt3 : ∀ x ∈ p3, x.block < W.heap.size := fun x hx => hW'.lt x (by simp [hx])
  refine (walk a0 v0 a1 v1 a2 a3 v3 ⟨wa0, wb0⟩ ⟨wa1, wb1⟩ w2 wa3 W (globs hsh) rr0 rr1 rr3).mono fun e W' ⟨he, bel⟩ => ?_
  subst he
  exact ⟨_, rfl, _, _, _, [], _, [], hW', trodAll_mk1 (shut_bool Tryz.underlying4 _), (trodAll_cons_mk (Below.trod laidOut (by kernel_rfl) (of_decide_eq_true (by kernel_rfl)) h0 bel hlt0) (trodAll_cons_mk (Below.trod laidOut (by kernel_rfl) (of_decide_eq_true (by kernel_rfl)) h1 bel hlt1) (trodAll_cons_mk (shut_int Tryz.underlying3 w2) (trodAll_cons_mk (Below.trod laidOut (by kernel_rfl) (of_decide_eq_true (by kernel_rfl)) h3 bel hlt3) trodAll_mk0)))), rfl, bel.frame _, fun h => by cases h⟩

theorem over : Rows.seekAlikeRow.holds Tryz.pinned (OpenSpec.ofChange Rows.seekAlikeSpec) :=
  OpenClaim.holds_of_wide 5 Tryz.f5 rfl rfl rfl rfl rfl rfl rfl ⟨rfl, rfl, rfl, rfl, rfl⟩ rfl rfl rfl rfl rfl (by kernel_rfl) Tryz.func5 (by kernel_rfl)
    (of_decide_eq_true (by kernel_rfl)) (by unfold Func.isWrapper; first | (rw [if_pos (by decide +kernel)]; kernel_rfl) | (rw [if_neg (by decide +kernel)]; exact ⟨rfl, rfl⟩))
    (fun os started H enc _ => lifted os started H enc)

/-- THE STATEMENT. -/
theorem proved : Rows.SeekAlikeSaid :=
  over
#print axioms proved
end Go.Proofs.YtnbialakgbcbfaaGreat.seekAlike
