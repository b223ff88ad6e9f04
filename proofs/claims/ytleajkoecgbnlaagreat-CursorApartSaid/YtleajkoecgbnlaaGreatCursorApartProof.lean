/- The given statement 'Rows.CursorApartSaid' is proved. No condition. The frame follows that of proof-skeleton.mjs. -/
import Derived.Test.YtleajkoecgbnlaaGreatRows
import Derived.Test.YtleajkoecgbnlaaGreatCaTR
import Derived.WalkKit
import Derived.ProofKit
import Derived.OpenShut
import Derived.ShutString
import Derived.Below
import Derived.Carry
import Derived.HandedShaped
import Derived.Shelf.Vars
namespace Go.Proofs.YtleajkoecgbnlaaGreat.cursorApart
open Go Go.QAbs
open Go.ChangeShapes Go.WideShapes Go.ChangeAt Go.RowKit
open Go.ChangeMaps (open_string shut_string)
set_option linter.unusedVariables false

theorem own : ownKnob Tryz.prog.godebug = none := by kernel_rfl

theorem cells3 : Tryz.prog.cellsOf 3 = 1 := by kernel_rfl
theorem cells5 : Tryz.prog.cellsOf 5 = 1 := by kernel_rfl
theorem cells98 : Tryz.prog.cellsOf 98 = 4 := by kernel_rfl
theorem laidOut : laidOutB Tryz.prog = true := by kernel_rfl
theorem walk (a0 : ByteArray) (a1 : List (Nat × Int × Int × Nat)) (x1 : Value) (a2 : List Int) (x2 : Value) (w0 : a0.size ≤ maxLen) (w1 : a1.length ≤ maxLen) (w2 : a2.length ≤ maxLen) (w : World) (hg : KG Tryz.prog w (.of w)) (r1 : R (cx .empty rho0 w 0) (.lit (a1.map fun q => .agg [.int .u8 q.1, .int .i64 q.2.1, .int .i64 q.2.2.1, .int .u8 q.2.2.2])) x1) (r2 : R (cx .empty rho0 w 0) (.lit (a2.map (.int .i64))) x2) :
    Calls Tryz.prog 11 #[.string a0, x1, x2] w fun e w' => e = .returned (.bool true) ∧ Below w.heap.size w w' :=
  walk_in (xs := [.string a0, x1, x2]) (by kernel_rfl) Go.Q15.T3_ok (Go.Q15.cursorApart_run a0.data.toList a1 a2 (by rw [Array.length_toList]; exact w0) w1 w2) hg (.cons (by rw [str_eq a0]; exact .str _) (.cons r1 (.cons r2 (.nil _))))

theorem globs {W : World} (h : W.ShapedOpen Tryz.prog) : KG Tryz.prog W (.of W) := fun g hg => by
  obtain rfl : 0 = g := Option.some.inj ((by kernel_rfl : Tryz.prog.globalNamed "internal/bytealg.MaxLen" = some 0).symm.trans hg)
  obtain ⟨m, hm⟩ := Go.Proofs.cell_of_shapedOpen_int (k := .i64) (t := 3) (zero := #[.int .i64 0]) h (of_decide_eq_true (by kernel_rfl)) (by kernel_rfl) rfl (by kernel_rfl) (by kernel_rfl) (by kernel_rfl)
  exact ⟨m, hm, World.block_lt_of_cell? (a := ⟨0, 0, none⟩) (w := W) hm⟩

set_option maxRecDepth 100000 in
theorem lifted (os : Os) (started : os.Started) (H : Type) (enc : TypeId × Value → H) :
    ReturnsInHanded {} Tryz.checked os 11 .any (Rows.cursorApartSpec.pre6 enc Tryz.prog Tryz.f11 Rows.cursorApartRow.domain false) (Rows.cursorApartSpec.post enc Tryz.prog Tryz.f11 false true false false) := by
  refine returnsInHanded_of_change_shaped (C := Tryz.checked) own started (by kernel_rfl) Tryz.func11
    (ChangeSpec.witness6 (enc := enc) (C := Tryz.checked) false ⟨#[], #[.string ⟨#[]⟩, .slice none 0 0, .slice none 0 0], []⟩ 8 (by kernel_rfl) (by kernel_rfl) (by kernel_rfl) (by kernel_rfl)) ?_
  intro W base args ds gs before hval0 hW hcnd _ hsh _
  have hval : ∀ (j : Nat) t v, Tryz.f11.params[j]? = some t → args[j]? = some v → Value.okWide Tryz.prog W .any base t v := hval0
  have hW' := hW
  obtain ⟨p, q, hA0, hV, rfl, hfz, hnd⟩ := hW
  have hA : DataW.TrodAll enc Tryz.prog W 0 (fun _ => true) true Tryz.f11.params.toList args.toList ds p := hA0
  rw [Tryz.params11] at hA hval
  obtain ⟨v0, vs0, d0, ds0, p0, q0, hargs, rfl, rfl, h0, r0⟩ := trodAll_cons hA
  obtain ⟨v1, vs1, d1, ds1, p1, q1, rfl, rfl, rfl, h1, r1⟩ := trodAll_cons r0
  obtain ⟨v2, vs2, d2, ds2, p2, q2, rfl, rfl, rfl, h2, r2⟩ := trodAll_cons r1
  obtain ⟨rfl, rfl, rfl⟩ := trodAll_nil r2
  obtain rfl : args = #[v0, v1, v2] := by cases args; simp_all
  obtain ⟨rfl, rfl⟩ := trodVars_none hV
  obtain ⟨a0, rfl, rfl, rfl, w0⟩ := open_string Tryz.underlying9 (hval 0 9 v0 rfl rfl) h0
  obtain ⟨a1, wa1, rr1⟩ := open_csteps_arg Tryz.underlying92 Tryz.underlying98 cells98 ⟨rfl, rfl, Tryz.underlying5, cells5⟩ ⟨rfl, rfl, Tryz.underlying3, cells3⟩ ⟨rfl, rfl, Tryz.underlying3, cells3⟩ ⟨rfl, rfl, Tryz.underlying5, cells5⟩ (hval 1 92 v1 rfl rfl) h1
  obtain ⟨a2, wa2, rr2⟩ := open_ints_arg Tryz.underlying76 Tryz.underlying3 cells3 (hval 2 76 v2 rfl rfl) h2
  clear hA0 hval0
  simp only [List.append_nil] at hW'
  have hlt1 : ∀ x ∈ p1, x.block < W.heap.size := fun x hx => hW'.lt x (by simp [hx])
  have hlt2 : ∀ x ∈ p2, x.block < W.heap.size := fun x hx => hW'.lt x (by simp [hx])
  refine (walk a0 a1 v1 a2 v2 w0 wa1 wa2 W (globs hsh) rr1 rr2).mono fun e W' ⟨he, bel⟩ => ?_
  subst he
  exact ⟨_, rfl, _, _, _, [], _, [], hW', trodAll_mk1 (shut_bool Tryz.underlying4 _), (trodAll_cons_mk (shut_string Tryz.underlying9 w0) (trodAll_cons_mk (Below.trod laidOut (by kernel_rfl) (of_decide_eq_true (by kernel_rfl)) h1 bel hlt1) (trodAll_cons_mk (Below.trod laidOut (by kernel_rfl) (of_decide_eq_true (by kernel_rfl)) h2 bel hlt2) trodAll_mk0))), rfl, bel.frame _, fun h => by cases h⟩

theorem over : Rows.cursorApartRow.holds Tryz.pinned (OpenSpec.ofChange Rows.cursorApartSpec) :=
  OpenClaim.holds_of_wide 11 Tryz.f11 rfl rfl rfl rfl rfl rfl rfl ⟨rfl, rfl, rfl, rfl, rfl⟩ rfl rfl rfl rfl rfl (by kernel_rfl) Tryz.func11 (by kernel_rfl)
    (of_decide_eq_true (by kernel_rfl)) (by unfold Func.isWrapper; first | (rw [if_pos (by decide +kernel)]; kernel_rfl) | (rw [if_neg (by decide +kernel)]; exact ⟨rfl, rfl⟩))
    (fun os started H enc _ => lifted os started H enc)

/-- THE STATEMENT. -/
theorem proved : Rows.CursorApartSaid :=
  over
#print axioms proved
end Go.Proofs.YtleajkoecgbnlaaGreat.cursorApart
