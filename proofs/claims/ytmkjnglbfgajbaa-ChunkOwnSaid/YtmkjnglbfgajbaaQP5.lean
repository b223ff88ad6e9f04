/- A step of a region; a region in its order and in every order. No condition. -/
import Derived.Test.YtmkjnglbfgajbaaQR4
import Derived.Orders
namespace Go.QAbs
set_option linter.unusedVariables false
set_option linter.unusedSimpArgs false
open Go.RowKit (Below)

/-- What the oracle says of a call is so. -/
structure OSound (P : Program) (O : Orc) : Prop where
  frame : FrO O
  enter : ∀ {f : FuncId} {args : List AV} {st : St} {r : AV × St}, O f args st = some r → ∀ (xs : Array Value) (W : World), (callFunc f xs).run P W = .ok (.enter f xs) W
  calls : ∀ {f : FuncId} {args : List AV} {st : St} {v : AV} {st' : St}, O f args st = some (v, st') → ∀ {W0 : World} {B0 : Nat} {ρ : Rho} {W : World} {xs : List Value}, Rel W0 B0 st ρ W → RL (cx st ρ W st.A.length) args xs →
    Calls P f xs.toArray W fun e W' => ∃ x ρ', e = .returned x ∧ Goes W0 B0 st ρ W st' ρ' W' ∧ R (cx st' ρ' W' st'.A.length) v x

section
variable {P : Program} {O : Orc} {W0 : World} {B0 : Nat} {st st' : St} {ρ : Rho} {W : World} {e : Env} {a : Act}

theorem weak_ok {C : Cx} {v : AV} {x : Value} (h : R C v x) : R C (weak v) x := by
  unfold weak
  split
  · cases h; exact .lit0 _ _
  · exact h

theorem weaks_ok {C : Cx} : ∀ {vs : List AV} {xs : List Value}, RL C vs xs → RL C (weaks vs) xs
  | [], xs, h => h
  | v :: vs, xs, h => by
    obtain ⟨x, ys, rfl, h1, h2⟩ := h.cons_inv
    exact .cons (weak_ok h1) (weaks_ok h2)

theorem inner_ok (hO : OSound P O) {f : FuncId} {args : List AV} {v : AV} (h : callM O .inner f args st = some (v, st')) (hr : Rel W0 B0 st ρ W) {xs : List Value} (hx : RL (cx st ρ W st.A.length) args xs) :
    (∀ (ys : Array Value) (W : World), (callFunc f ys).run P W = .ok (.enter f ys) W) ∧
      Calls P f xs.toArray W fun e W' => ∃ x ρ', e = .returned x ∧ Goes W0 B0 st ρ W st' ρ' W' ∧ R (cx st' ρ' W' st'.A.length) v x := by
  simp only [callM, Option.bind_eq_some_iff, scopeK, sealK, leaveK, popK, Option.some.injEq, Prod.mk.injEq] at h
  obtain ⟨⟨v0, st1⟩, h0, ⟨v1, st2⟩, hseal, ⟨A', r0⟩, hpop, rfl, rfl⟩ := h
  simp only at hseal hpop
  have hpl : st.push.A.length = st.A.length + 1 := by simp [St.push]
  have hpush := Sub.push st
  refine ⟨hO.enter h0, (hO.calls h0 (hpush.rel hr) ((hx.mono (hpush.cx (Nat.le_refl _))).mono (cx_lv (by omega)))).mono ?_⟩
  rintro e' W' ⟨x, ρ', rfl, g, hv⟩
  have hl1 : st1.A.length = st.A.length + 1 := by rw [g.ev.len, hpl]
  obtain ⟨g2, hv2⟩ := sealV_ok deep st1.A.length st1 v0 x v1 st2 g.rel (by omega) hv hseal
  obtain ⟨g3, hle⟩ := leave_ok g2.rel (g.ev.trans g2.ev) hpop
  refine ⟨x, ρ', rfl, g3, ?_⟩
  rw [hl1] at hv2
  have hl3 : (⟨A', r0.1, r0.2⟩ : St).A.length = st.A.length := g3.ev.len
  rw [hl3]
  exact R.mono (show R (cx st2 ρ' W' st.A.length) v1 x from hv2) hle

theorem callM_ok (hO : OSound P O) {m : CM} {f : FuncId} {args : List AV} {v : AV} (h : callM O m f args st = some (v, st')) (hr : Rel W0 B0 st ρ W) {xs : List Value} (hx : RL (cx st ρ W st.A.length) args xs) :
    (∀ (ys : Array Value) (W : World), (callFunc f ys).run P W = .ok (.enter f ys) W) ∧
      Calls P f xs.toArray W fun e W' => ∃ x ρ', e = .returned x ∧ Goes W0 B0 st ρ W st' ρ' W' ∧ R (cx st' ρ' W' st'.A.length) v x := by
  cases m with
  | norm => exact ⟨hO.enter h, hO.calls h hr hx⟩
  | own =>
    simp only [callM, Option.bind_eq_some_iff, ownK] at h
    obtain ⟨⟨v0, st2⟩, h0, h⟩ := h
    split at h
    · simp only [Option.some.injEq, Prod.mk.injEq] at h
      obtain ⟨rfl, rfl⟩ := h
      have hs : Sub st.A.length st { st with ro := true } := Sub.same (s := st) (t := { st with ro := true }) (fun lv ix => rfl)
      refine ⟨hO.enter h0, (hO.calls h0 (hs.rel hr) hx).mono ?_⟩
      rintro e' W' ⟨x, ρ', rfl, g, hv⟩
      obtain ⟨g', hle⟩ := own_ok (st := st) g.rel g.ev
      have hL : st2.L = st.L := g.ev.cur rfl
      have he : (⟨st2.A, st.ro, st.L⟩ : St) = { st2 with ro := st.ro } := by rw [← hL]
      rw [he]
      exact ⟨x, ρ', rfl, g', hv.mono (hle _)⟩
    · simp at h
  | pure =>
    simp only [callM, Option.bind_eq_some_iff, pureK, Option.some.injEq, Prod.mk.injEq] at h
    obtain ⟨⟨v0, st2⟩, h0, h1, rfl⟩ := h
    simp only at h1; subst h1
    have hl1 : st.allRo.A.length = st.A.length := by simp [St.allRo]
    have hcx : ∀ m, cx st.allRo ρ W m = cx st ρ W m := by
      intro m
      unfold cx Mut
      simp only [allRo_get]
    have hs : Sub st.A.length st st.allRo := by
      have := Sub.same (s := st) (t := st.allRo) (allRo_get st)
      rw [hl1] at this
      exact this
    refine ⟨hO.enter h0, (hO.calls h0 (hs.rel hr) (by rw [hl1, hcx]; exact hx)).mono ?_⟩
    rintro e' W' ⟨x, ρ', rfl, g, hv⟩
    obtain ⟨g', hle⟩ := pure_ok (st := st) g.rel g.ev
    have hl2 : st2.A.length = st.A.length := by rw [g.ev.len, hl1]
    rw [hl2] at hv
    exact ⟨x, ρ', rfl, g', hv.mono (hle _ (Nat.le_refl _))⟩
  | inner => exact inner_ok hO h hr hx
  | move =>
    simp only [callM, Option.bind_eq_some_iff] at h
    obtain ⟨⟨v0, st1⟩, h0, h⟩ := h
    have hpl : st.push.A.length = st.A.length + 1 := by simp [St.push]
    have hpush := Sub.push st
    refine ⟨hO.enter h0, (hO.calls h0 (hpush.rel hr) ((hx.mono (hpush.cx (Nat.le_refl _))).mono (cx_lv (by omega)))).mono ?_⟩
    rintro e' W' ⟨x, ρ', rfl, g, hv⟩
    obtain ⟨ρ4, g4, hv4⟩ := adoptK_ok g.rel g.ev h hv
    exact ⟨x, ρ4, rfl, g4, hv4⟩
  | pin =>
    have h' : (callM O .inner f args st.allRo).bind (pureK st) = some (v, st') := h
    clear h
    simp only [Option.bind_eq_some_iff, pureK, Option.some.injEq, Prod.mk.injEq] at h'
    obtain ⟨⟨v0, st2⟩, h0, h1, rfl⟩ := h'
    simp only at h1; subst h1
    have hl1 : st.allRo.A.length = st.A.length := by simp [St.allRo]
    have hcx : ∀ m, cx st.allRo ρ W m = cx st ρ W m := by
      intro m
      unfold cx Mut
      simp only [allRo_get]
    have hs : Sub st.A.length st st.allRo := by
      have := Sub.same (s := st) (t := st.allRo) (allRo_get st)
      rw [hl1] at this
      exact this
    obtain ⟨e1, e2⟩ := inner_ok hO h0 (hs.rel hr) (by rw [hl1, hcx]; exact hx)
    refine ⟨e1, e2.mono ?_⟩
    rintro e' W' ⟨x, ρ', rfl, g, hv⟩
    obtain ⟨g', hle⟩ := pure_ok (st := st) g.rel g.ev
    have hl2 : st2.A.length = st.A.length := by rw [g.ev.len, hl1]
    rw [hl2] at hv
    exact ⟨x, ρ', rfl, g', hv.mono (hle _ (Nat.le_refl _))⟩

theorem call_run {o : Oper} {c : Call} {f : Operand} (hop : o.op = .call c) (hf : c.callee = .value f) {g : FuncId} {xs ys : List Value} (hv : a.eval f = .func (.func g) xs.toArray ys.toArray)
    (hrun : ∀ (zs : Array Value) (W : World), (callFunc g zs).run P W = .ok (.enter g zs) W) : (execOp a.eval o).run P W = .ok (.enter g (xs ++ c.args.toList.map a.eval ++ ys).toArray) W := by
  have e1 : (c.args.map a.eval) = (c.args.toList.map a.eval).toArray := by rw [← Array.toList_map, Array.toArray_toList]
  simp only [execOp, hop, resolve, hf, hv, Deferred.ofValue, invoke, Sem.run_bind, Sem.run_pure, Result.andThen_ok, hrun, e1]
  simp

theorem put_env {C : Cx} {nt : Nat} {d : Option Nat} {v : AV} {x : Value} (he : EnvR C e a.tmps) (hv : R C v x) (hd : dstOk nt d = true) (hs : nt ≤ a.tmps.size) : EnvR C (setD e d v) (a.put d x).tmps := by
  intro t
  cases d with
  | none => exact he t
  | some d =>
    simp only [dstOk, decide_eq_true_eq] at hd
    simp only [setD, look, Act.put]
    split
    · rename_i h; subst h
      have : (a.tmps.setIfInBounds d x).getD d Go.undef = x := by
        simp [Array.getElem?_setIfInBounds]
        rw [if_pos (by omega)]; rfl
      rw [this]; exact hv
    · rename_i h
      have : (a.tmps.setIfInBounds d x).getD t Go.undef = a.tmps.getD t Go.undef := by
        simp [Array.getElem?_setIfInBounds_ne h]
      rw [this]; exact he t

theorem put_size {d : Option Nat} {x : Value} : (a.put d x).tmps.size = a.tmps.size ∧ (a.put d x).defers = a.defers := by
  cases d with
  | none => exact ⟨rfl, rfl⟩
  | some d => exact ⟨by simp [Act.put], rfl⟩

theorem wanted_ok {ops : Array Oper} {o : Oper} {g : Option (Nat × Bool)} (hg : guardOf ops o.guard = some g) {C : Cx} (he : EnvR C e a.tmps) {b : Bool} (hb : wantedV e g = some b) : Region.wanted o (yielded ops a.tmps) = b := by
  unfold Region.wanted
  cases hgo : o.guard with
  | none =>
    rw [hgo] at hg
    simp only [guardOf, Option.some.injEq] at hg; subst hg
    simp only [wantedV, Option.some.injEq] at hb
    exact hb
  | some q =>
    obtain ⟨j, want⟩ := q
    rw [hgo] at hg
    simp only [guardOf, Option.map_eq_some_iff] at hg
    obtain ⟨t, ht, rfl⟩ := hg
    simp only [wantedV] at hb
    have het := he t
    unfold wantedB at hb
    unfold yielded
    simp only [ht, Option.bind_some]
    have hgd : a.tmps.getD t Go.undef = (a.tmps[t]?).getD Go.undef := by simp
    rw [hgd] at het
    split at hb
    · rename_i b' hb'
      rw [hb'] at het
      simp only [Option.some.injEq] at hb; subst hb
      have := getBool het
      cases hx : a.tmps[t]? with
      | none => rw [hx] at this; simp [Go.undef] at this
      | some x => rw [hx] at this; simp only [Option.getD_some] at this; subst this; rfl
    · rename_i hb'
      rw [hb'] at het
      simp only [Option.some.injEq] at hb; subst hb
      cases hx : a.tmps[t]? with
      | none => rfl
      | some x =>
        rw [hx] at het
        simp only [Option.getD_some] at het
        cases het
        rfl
    · simp at hb

theorem call_inv {own : Bool} {cm m : CM} {o : Oper} {f : Opd} {l : List Opd} (h : compOp P own cm o = some (.call m f l)) : ∃ c fo, o.op = .call c ∧ c.callee = .value fo ∧ opd fo = some f ∧ opds c.args.toList = some l := by
  cases hop : o.op with
  | call c =>
    simp only [compOp, hop] at h
    split at h
    · exfalso
      unfold compBuiltin at h
      repeat' split at h
      all_goals simp [Option.bind_eq_some_iff, Option.map_eq_some_iff] at h
      all_goals (split at h <;> simp at h)
    · rename_i fo hfo
      simp only [Option.bind_eq_some_iff, Option.map_eq_some_iff] at h
      obtain ⟨f', hf, l', hl, h⟩ := h
      simp only [PO.call.injEq] at h
      obtain ⟨_, rfl, rfl⟩ := h
      exact ⟨c, fo, rfl, hfo, hf, hl⟩
    · simp at h
  | makeMap t r => exfalso; cases r <;> simp [compOp, hop] at h
  | slice t x lo hi mx =>
    exfalso
    cases mx <;> simp only [compOp, hop] at h
    all_goals repeat' first
      | (exfalso; simp at h; done)
      | split at h
      | (simp only [Option.bind_eq_some_iff] at h; obtain ⟨_, _, h⟩ := h)
  | _ =>
    exfalso
    simp only [compOp, hop] at h
    repeat' first
      | (exfalso; simp at h; done)
      | split at h
      | (simp only [Option.bind_eq_some_iff] at h; obtain ⟨_, _, h⟩ := h)
      | (simp only [Option.map_eq_some_iff] at h; obtain ⟨_, _, h⟩ := h)
      | unfold eqsOf at h

theorem wkOf_cases (o : PO) (i : Nat) : ∀ l : List (Nat × WK), wkOf l i o = o ∨ ∃ k, wkOf l i o = .w k o
  | [] => .inl rfl
  | (j, k) :: l => by
    simp only [wkOf]
    split
    · exact .inr ⟨k, rfl⟩
    · exact wkOf_cases o i l

/-- One step of a region. -/
theorem val_ok (hO : OSound P O) {ops : Array Oper} {nt : Nat} {h : Hint} {i : Nat} {o : Oper} {p : PI} (ho : ops[i]? = some o) (hc : compI P nt ops h i o = some p) {Q : Exit → Act → World → Prop} {K : Act → World → Prop}
    (hr : Rel W0 B0 st ρ W) (he : EnvR (cx st ρ W st.A.length) e a.tmps) (hs : nt ≤ a.tmps.size) {v : AV} (hv : valI O p e st = some (v, st'))
    (hK : ∀ a' ρ' W', Goes W0 B0 st ρ W st' ρ' W' → EnvR (cx st' ρ' W' st'.A.length) (setD e p.dst v) a'.tmps → a'.tmps.size = a.tmps.size → a'.defers = a.defers → K a' W') : wpOp P ops Q i K a W := by
  unfold compI at hc
  split at hc
  case isFalse => simp at hc
  rename_i hd
  simp only [Option.bind_eq_some_iff, Option.map_eq_some_iff] at hc
  obtain ⟨po0, hpo, g, hg, rfl⟩ := hc
  generalize hpe : wkOf h.wk i po0 = po at *
  simp only [valI, Option.bind_eq_some_iff] at hv
  obtain ⟨b, hb, hv⟩ := hv
  have hw := wanted_ok hg he hb
  unfold wpOp
  simp only [ho, hw]
  have putK : ∀ x ρ' W', Goes W0 B0 st ρ W st' ρ' W' → R (cx st' ρ' W' st'.A.length) v x → K (a.put o.dst x) W' := by
    intro x ρ' W' gs hx
    have hlen := gs.ev.len
    exact hK _ ρ' W' gs (put_env (he.mono (by rw [hlen]; exact gs.ev.le _ (Nat.le_refl _))) hx hd hs) put_size.1 put_size.2
  cases b with
  | false =>
    simp only [stepT, Option.some.injEq, Prod.mk.injEq] at hv
    obtain ⟨rfl, rfl⟩ := hv
    simp only [Bool.false_eq_true, if_false]
    exact putK _ ρ W (.refl hr) .undef
  | true =>
    simp only [if_true]
    refine .inl ?_
    simp only [stepT] at hv
    have fin : Fin W0 B0 st ρ W ((execOp a.eval o).run P W) v st' → o.wp P a W K Q := by
      rintro ⟨nx, x, ρ', W', hrun, hnx, gs, hx⟩
      unfold Oper.wp
      rw [hrun]
      rcases hnx with rfl | ⟨rfl, rfl⟩
      · exact putK x ρ' W' gs hx
      · exact putK _ ρ' W' gs hx
    rcases wkOf_cases po0 i h.wk with hw0 | ⟨kk, hw0⟩
    case inr =>
      rw [hpe] at hw0; subst hw0
      unfold evalI at hv
      simp only [PO.reads, Bool.false_eq_true, if_false] at hv
      split at hv
      · simp at hv
      · exact fin (w_fin hr he hpo hv)
    rw [hpe] at hw0; subst hw0
    have plain : (∀ m f l, po ≠ .call m f l) → evalPO e st po = some (v, st') → o.wp P a W K Q := fun hn hev => fin (op_fin hr he hpo hn hev)
    unfold evalI at hv
    simp only at hv
    split at hv
    · split at hv
      · rename_i hrd
        simp only [Option.bind_eq_some_iff, pureK, Option.some.injEq, Prod.mk.injEq] at hv
        obtain ⟨⟨v0, s0⟩, h0, h1, rfl⟩ := hv
        simp only at h1; subst h1
        exact plain (fun m f l q => by rw [q] at hrd; simp [PO.reads] at hrd) (reads_mono hrd (.mask st) h0).1
      · simp at hv
    · by_cases hcall : ∃ m f l, po = .call m f l
      · obtain ⟨m, f, l, rfl⟩ := hcall
        simp only [evalPI] at hv
        unfold callV at hv
        split at hv
        · rename_i g' first cap hfe
          obtain ⟨c, fo, hop, hcal, hfo, hl⟩ : ∃ c fo, o.op = .call c ∧ c.callee = .value fo ∧ opd fo = some f ∧ opds c.args.toList = some l := call_inv hpo
          have hfv := opd_ok hfo he
          rw [hfe] at hfv
          generalize hu : a.eval fo = u at hfv
          cases hfv with
          | @func _ _ _ _ xs ys hf hc rf rc =>
            have hargs : RL (cx st ρ W st.A.length) (first ++ gets e l ++ cap) (xs ++ c.args.toList.map a.eval ++ ys) := (RL.append ⟨hf, rf⟩ (opds_ok hl he)).append ⟨hc, rc⟩
            obtain ⟨h1, h2⟩ := callM_ok hO hv hr (weaks_ok hargs)
            unfold Oper.wp
            rw [call_run hop hcal hu h1]
            refine h2.mono ?_
            rintro e' W' ⟨x, ρ', rfl, gs, hx⟩
            exact putK x ρ' W' gs hx
        · simp at hv
      · refine plain (fun m f l q => hcall ⟨m, f, l, q⟩) ?_
        rw [← hv]
        have hnw : ∀ k q, po ≠ .w k q := fun k q hq => by rw [hq] at hpo; exact no_w hpo
        cases hpp : po with
        | call m f l => exact absurd ⟨m, f, l, hpp⟩ hcall
        | w k q => exact absurd hpp (hnw k q)
        | _ => rfl
end
end Go.QAbs
