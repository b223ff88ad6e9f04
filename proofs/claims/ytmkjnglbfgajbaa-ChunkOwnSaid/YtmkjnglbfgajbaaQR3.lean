/- An operation whose new block fills a hole; what is said beside an operation. No condition. -/
import Derived.Test.YtmkjnglbfgajbaaQP4
namespace Go.QAbs
set_option linter.unusedVariables false
set_option linter.unusedSimpArgs false
set_option linter.unusedVariables false
set_option linter.unusedSimpArgs false

section
variable {P : Program} {O : Orc} {W0 : World} {B0 : Nat} {st st' : St} {ρ : Rho} {W : World} {e : Env} {a : Act}

theorem box_inv {own : Bool} {cm : CM} {o : Oper} {x : Opd} (h : compOp P own cm o = some (.box x)) : (∃ el z, o.op = .alloc el ∧ zeroC P el = some z ∧ x = .v z) ∨ (∃ el y, o.op = .box el y ∧ opd y = some x) := by
  cases hop : o.op with
  | alloc el =>
    left
    simp only [compOp, hop] at h
    repeat' first
      | (exfalso; simp at h; done)
      | (exfalso; simp only [Option.bind_eq_some_iff] at h; obtain ⟨_, _, h⟩ := h; repeat' split at h <;> simp at h; done)
      | split at h
    all_goals
      simp only [Option.map_eq_some_iff, PO.box.injEq] at h
      obtain ⟨z, hz, rfl⟩ := h
      exact ⟨el, z, rfl, hz, rfl⟩
  | box el y =>
    right
    simp only [compOp, hop] at h
    split at h
    · exfalso
      repeat' first
        | (simp at h; done)
        | split at h
        | (simp only [Option.bind_eq_some_iff] at h; obtain ⟨_, _, h⟩ := h)
    · simp only [Option.map_eq_some_iff, PO.box.injEq] at h
      obtain ⟨z, hz, rfl⟩ := h
      exact ⟨el, _, rfl, hz⟩
  | call c =>
    exfalso
    simp only [compOp, hop] at h
    split at h
    · unfold compBuiltin at h
      repeat' split at h
      all_goals simp [Option.bind_eq_some_iff, Option.map_eq_some_iff] at h
      all_goals (split at h <;> simp at h)
    · simp [Option.bind_eq_some_iff, Option.map_eq_some_iff] at h
    · simp at h
  | makeMap t r => exfalso; cases r <;> simp [compOp, hop] at h
  | slice t x lo hi mx =>
    exfalso
    cases mx <;> simp only [compOp, hop] at h
    all_goals repeat' first
      | (exfalso; simp at h; done)
      | split at h
      | (simp only [Option.bind_eq_some_iff] at h; obtain ⟨_, _, h⟩ := h)
  | _ =>
    exfalso
    simp only [compOp, hop] at h
    repeat' first
      | (exfalso; simp at h; done)
      | split at h
      | (simp only [Option.bind_eq_some_iff] at h; obtain ⟨_, _, h⟩ := h)
      | (simp only [Option.map_eq_some_iff] at h; obtain ⟨_, _, h⟩ := h)
      | unfold eqsOf at h

theorem no_w {own : Bool} {cm : CM} {o : Oper} {k : WK} {q : PO} (h : compOp P own cm o = some (.w k q)) : False := by
  cases hop : o.op with
  | call c =>
    simp only [compOp, hop] at h
    split at h
    · unfold compBuiltin at h
      repeat' split at h
      all_goals simp [Option.bind_eq_some_iff, Option.map_eq_some_iff] at h
      all_goals (split at h <;> simp at h)
    · simp [Option.bind_eq_some_iff, Option.map_eq_some_iff] at h
    · simp at h
  | makeMap t r => cases r <;> simp [compOp, hop] at h
  | slice t x lo hi mx =>
    cases mx <;> simp only [compOp, hop] at h
    all_goals repeat' first
      | (exfalso; simp at h; done)
      | split at h
      | (simp only [Option.bind_eq_some_iff] at h; obtain ⟨_, _, h⟩ := h)
  | _ =>
    simp only [compOp, hop] at h
    repeat' first
      | (exfalso; simp at h; done)
      | split at h
      | (simp only [Option.bind_eq_some_iff] at h; obtain ⟨_, _, h⟩ := h)
      | (simp only [Option.map_eq_some_iff] at h; obtain ⟨_, _, h⟩ := h)
      | unfold eqsOf at h

theorem mksl_inv {own : Bool} {cm : CM} {o : Oper} {w bytes : Nat} {z : AV} {l c : Opd} (h : compOp P own cm o = some (.mkslice w bytes z l c)) :
    ∃ t l' c' el i, o.op = .makeSlice t l' c' ∧ P.underlying t = some (.slice el) ∧ P.info? el = some i ∧ i.size ≠ 0 ∧ zeroC P el = some z ∧ z.wide = some i.size ∧ opd l' = some l ∧ opd c' = some c ∧ i.size = w ∧ i.bytes = bytes := by
  cases hop : o.op with
  | makeSlice t l' c' =>
    simp only [compOp, hop] at h
    split at h
    · rename_i el hu
      simp only [Option.bind_eq_some_iff] at h
      obtain ⟨i, hi, h⟩ := h
      split at h
      · simp at h
      · rename_i hw0
        simp only [Option.bind_eq_some_iff] at h
        obtain ⟨z', hz, h⟩ := h
        split at h
        · rename_i hzw
          simp only [Option.bind_eq_some_iff, Option.map_eq_some_iff, PO.mkslice.injEq] at h
          obtain ⟨l2, hl, c2, hc, rfl, rfl, rfl, rfl, rfl⟩ := h
          exact ⟨t, l', c', el, i, rfl, hu, hi, hw0, hz, hzw, hl, hc, rfl, rfl⟩
        · simp at h
    · simp at h
  | call c =>
    exfalso
    simp only [compOp, hop] at h
    split at h
    · unfold compBuiltin at h
      repeat' split at h
      all_goals simp [Option.bind_eq_some_iff, Option.map_eq_some_iff] at h
      all_goals (split at h <;> simp at h)
    · simp [Option.bind_eq_some_iff, Option.map_eq_some_iff] at h
    · simp at h
  | makeMap t r => exfalso; cases r <;> simp [compOp, hop] at h
  | slice t x lo hi mx =>
    exfalso
    cases mx <;> simp only [compOp, hop] at h
    all_goals repeat' first
      | (exfalso; simp at h; done)
      | split at h
      | (simp only [Option.bind_eq_some_iff] at h; obtain ⟨_, _, h⟩ := h)
  | _ =>
    exfalso
    simp only [compOp, hop] at h
    repeat' first
      | (exfalso; simp at h; done)
      | split at h
      | (simp only [Option.bind_eq_some_iff] at h; obtain ⟨_, _, h⟩ := h)
      | (simp only [Option.map_eq_some_iff] at h; obtain ⟨_, _, h⟩ := h)
      | unfold eqsOf at h

theorem here_fin (hr : Rel W0 B0 st ρ W) (he : EnvR (cx st ρ W st.A.length) e a.tmps) {o : Oper} {own : Bool} {cm : CM} {po : PO} {j : Nat} {v : AV} (hc : compOp P own cm o = some po)
    (h : evalW e st po (.here j) = some (v, st')) : Fin W0 B0 st ρ W ((execOp a.eval o).run P W) v st' := by
  obtain ⟨⟨blk, mk⟩, k, hb, hro, him, hk, rfl, rfl⟩ := here_inv h
  simp only at him ⊢
  have hvis : vis (some blk) = some blk := by
    cases blk <;> first | rfl | simp [immB] at him
  have hn : News st blk k { st with L := st.L.set k blk } := .of_fill hro (findH_some hk) hvis
  unfold newOf at hb
  split at hb
  · rename_i x
    simp only [Option.bind_eq_some_iff, Option.some.injEq, Prod.mk.injEq] at hb
    obtain ⟨w, hw, rfl, rfl⟩ := hb
    have boxN : ∀ {s : Sem Value} {t : TypeId} {y : Value}, R (cx st ρ W st.A.length) (x.get e) y → (∀ r W', (newVar t y).run P W = .ok r W' → s.run P W = .ok (.pointer (some r)) W') →
        (execOp a.eval o).run P W = (do pure (Next.value (← s)) : Sem Next).run P W → Fin W0 B0 st ρ W ((execOp a.eval o).run P W) (.ptr st.A.length k 0 0 0) { st with L := st.L.set k (.arr w 0 [x.get e]) } := by
      intro s t y hx hs hrun
      obtain ⟨ρ', W', e1, g, hv⟩ := box_ok (P := P) (t := t) hr hx hw hn
      exact ⟨_, _, _, _, by rw [hrun]; exact run_v (hs _ _ e1), .inl rfl, g, hv⟩
    rcases box_inv hc with ⟨el, z, hop, hz, rfl⟩ | ⟨el, y, hop, hy⟩
    · obtain ⟨zv, hzr, hzc, _⟩ := run_zero (W := W) hz
      exact boxN (s := Instr.alloc el true (.tuple #[])) (t := el) (hzc _) (fun r W' hn => by simp [Instr.alloc, hzr, hn]) (by simp [execOp, hop])
    · exact boxN (s := Instr.box el (a.eval y)) (t := el) (opd_ok hy he) (fun r W' hn => by simp [Instr.box, hn]) (by simp [execOp, hop])
  · rename_i w bytes z l c
    simp only [Option.bind_eq_some_iff, Option.some.injEq, Prod.mk.injEq] at hb
    obtain ⟨⟨b, n⟩, hb, rfl, rfl⟩ := hb
    obtain ⟨t, l', c', el, i, hop, hu, hi, hw0, hz, hzw, hl, hc', rfl, rfl⟩ := mksl_inv hc
    obtain ⟨x, ρ', W', hx, g, hv⟩ := mkslV_okN (P := P) hr hb hn (opd_ok hl he) (opd_ok hc' he) hu hi rfl rfl hw0 hz hzw
    exact ⟨_, _, _, _, by simp only [execOp, hop]; exact run_v hx, .inl rfl, g, hv⟩
  · simp at hb

/-- What is said beside an operation changes nothing of what it does. -/
theorem w_fin (hr : Rel W0 B0 st ρ W) (he : EnvR (cx st ρ W st.A.length) e a.tmps) {o : Oper} {own : Bool} {cm : CM} {po : PO} {k : WK} {v : AV} (hc : compOp P own cm o = some po)
    (h : evalW e st po k = some (v, st')) : Fin W0 B0 st ρ W ((execOp a.eval o).run P W) v st' := by
  have nc : ∀ {po : PO} {r : AV × St}, compOp P own cm o = some po → evalPO e st po = some r → Fin W0 B0 st ρ W ((execOp a.eval o).run P W) r.1 r.2 := by
    intro po r hc h
    exact op_fin hr he hc (fun m f l q => by subst q; simp [evalPO] at h) h
  cases k with
  | blind =>
    simp only [evalW] at h
    split at h
    · rename_i hrd
      simp only [Option.bind_eq_some_iff, pureK, Option.some.injEq, Prod.mk.injEq] at h
      obtain ⟨⟨q1, q2⟩, hq, rfl, rfl⟩ := h
      exact nc hc (reads_mono hrd (.blank st) hq).1
    · simp at h
  | hide as =>
    simp only [evalW] at h
    split at h
    · rename_i hrd
      simp only [Option.bind_eq_some_iff, pureK, Option.some.injEq, Prod.mk.injEq] at h
      obtain ⟨⟨q1, q2⟩, hq, rfl, rfl⟩ := h
      exact nc hc (reads_mono hrd (.hide _ st) hq).1
    · simp at h
  | imm =>
    simp only [evalW] at h
    unfold immW at h
    split at h
    · rename_i w z ps
      simp only [Option.bind_eq_some_iff, immK] at h
      obtain ⟨es, hes, h⟩ := h
      split at h
      · rename_i hi
        simp only [Option.some.injEq, Prod.mk.injEq] at h
        obtain ⟨rfl, rfl⟩ := h
        refine nc (r := (if es.isEmpty = true then .nils else .lit es, st)) hc ?_
        simp only [evalPO, hes, Option.bind_some, bslK, Bool.false_eq_true, if_false]
        by_cases he' : es.isEmpty = true
        · simp [he']
        · rw [if_neg he', if_neg he']
          have := mapSt_id (f := sealV deep 0) (st := st) (es := es) fun v hv => seal_imm (List.all_eq_true.1 hi v hv)
          rw [this]; rfl
      · simp at h
    · simp at h
  | app0 =>
    simp only [evalW] at h
    unfold app0W at h
    split at h
    · split at h
      · exact nc hc h
      · simp at h
    · simp at h
  | plain b =>
    simp only [evalW] at h
    unfold plainW at h
    split at h
    · split at h
      · exact nc hc h
      · simp at h
    · simp at h
  | here j => exact here_fin hr he hc h

end
end Go.QAbs
