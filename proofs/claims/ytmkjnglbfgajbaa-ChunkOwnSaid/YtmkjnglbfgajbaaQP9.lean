/- What a function gives from an empty store, it gives in every store, where arguments and result hold no memory. No condition. -/
import Derived.Test.YtmkjnglbfgajbaaQP8
namespace Go.QAbs
set_option linter.unusedVariables false
set_option linter.unusedSimpArgs false
open Go.RowKit (Below)

section
variable {P : Program} {W0 : World} {B0 : Nat} {st : St} {ρ : Rho} {W W' : World}

theorem cell_below (h : Below W.heap.size W W') {b o : Nat} {v : Value} (hc : cellP W b o v) : cellP W' b o v := by
  have hlt := cell_lt hc
  unfold cellP at hc ⊢
  rw [h.cell (by exact hlt)]; exact hc

/-- What turns nothing that was there. -/
theorem quiet (hr : Rel W0 B0 st ρ W) (h : Below W.heap.size W W') : Goes W0 B0 st ρ W st ρ W' := by
  have hle : ∀ m, (cx st ρ W m).le (cx st ρ W' m) := fun m => ⟨fun b o v q => ⟨cell_below h q.1, q.2⟩, fun _ _ _ _ _ _ q => q, fun _ _ _ _ _ _ q => q, fun _ _ _ q => q⟩
  refine ⟨⟨hr.below.trans (h.mono hr.b0), by have := hr.b0; have := h.size; omega, ?_, hr.sep, ?_, hr.msep⟩, ⟨rfl, fun m _ => hle m, fun _ r h => ⟨r, h, rfl, fun _ => rfl⟩, rfl, fun _ => rfl⟩⟩
  · intro lv ix w ver es hg
    obtain ⟨a1, a2, a3⟩ := hr.arr lv ix w ver es hg
    refine ⟨a1, fun i e he => ?_, fun j hj => ?_⟩
    · obtain ⟨x, h1, h2, h3⟩ := a2 i e he
      exact ⟨x, h1.mono (hle lv), h2, h3.mono fun _ _ _ => cell_below h⟩
    · obtain ⟨m1, m2, m3⟩ := a3 j hj
      obtain ⟨u, hu⟩ := Option.isSome_iff_exists.1 m2
      have hc : cellP W' _ _ u := cell_below h hu
      have hlt := cell_lt (W := W) hu
      unfold cellP at hc
      exact ⟨m1, by rw [hc]; rfl, by rw [h.frozen (by exact hlt)]; exact m3⟩
  · intro lv ix es hg
    obtain ⟨m1, en, clock, m2, m3, m4⟩ := hr.map lv ix es hg
    have hlt : (ρ lv ix).b < W.heap.size := lt_of_getA m2
    refine ⟨m1, en, clock, by rw [h.block _ hlt]; exact m2, m3, fun i k v hk => ?_⟩
    obtain ⟨n1, x, n2, n3, n4⟩ := m4 i k v hk
    exact ⟨n1, x, n2, n3.mono (hle lv), n4.mono (hle lv)⟩

/-- A value that holds no memory. -/
def plain : AV → Bool
  | .bool _ => true
  | .int _ _ => true
  | .str _ => true
  | _ => false

theorem plain_ok {v : AV} (h : plain v = true) {C D : Cx} {x : Value} (hx : R C v x) : R D v x := by
  cases v <;> simp [plain] at h <;> cases hx
  · exact .bool _
  · exact .int _ _
  · exact .str _

theorem plains_ok {vs : List AV} (h : vs.all plain = true) {C D : Cx} {xs : List Value} (hx : RL C vs xs) : RL D vs xs :=
  ⟨hx.1, fun i v x hv hxi => plain_ok (List.all_eq_true.1 h v (List.mem_of_getElem? hv)) (hx.2 i v x hv hxi)⟩

open Classical in
/-- What is known of a function by its runs from the empty store. -/
noncomputable def known (T : Tab) (f : FuncId) : Ent := .base fun args st =>
  if h : ∃ v st', S T f args .empty = some (v, st') ∧ args.all plain = true ∧ plain v = true then some (h.choose, st) else none

theorem known_ok (hm : P.follows .mixedOrders = true) {T : Tab} (hT : TabOk P T) (f : FuncId) : EntOk P f (known T f) := by
  refine ⟨fun args => ?_, ?_⟩
  · by_cases hq : ∃ v st', S T f args .empty = some (v, st') ∧ args.all plain = true ∧ plain v = true
    · exact (FrP.ret hq.choose).congr fun st => dif_pos hq
    · exact FrP.nope.congr fun st => dif_neg hq
  intro args st v st' h W0 B0 ρ W xs hr hx
  simp only at h
  split at h
  · rename_i hq
    simp only [Option.some.injEq, Prod.mk.injEq] at h
    obtain ⟨hv, rfl⟩ := h
    obtain ⟨st1, h1, h2, h3⟩ := hq.choose_spec
    rw [hv] at h1 h3
    have hcall := (S_ok hm hT).calls h1 (rel_empty W) (plains_ok h2 hx)
    refine hcall.mono ?_
    rintro e' W' ⟨x, ρ', rfl, g, hxv⟩
    have gq := quiet hr g.rel.below
    exact ⟨x, ρ, rfl, gq, plain_ok h3 hxv⟩
  · simp at h

theorem known_gives {T T' : Tab} {f : FuncId} {args : List AV} {v : AV} {st1 st : St} (hf : T' f = some (known T f)) (h : S T f args .empty = some (v, st1)) (ha : args.all plain = true) (hv : plain v = true) : S T' f args st = some (v, st) := by
  refine S_base hf ?_
  have hq : ∃ v st', S T f args .empty = some (v, st') ∧ args.all plain = true ∧ plain v = true := ⟨v, st1, h, ha, hv⟩
  rw [dif_pos hq]
  obtain ⟨st2, h2, _, _⟩ := hq.choose_spec
  have h3 := h.symm.trans h2
  simp only [Option.some.injEq, Prod.mk.injEq] at h3
  rw [← h3.1]

end
end Go.QAbs
