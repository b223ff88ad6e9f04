/- Every operation that is no call does what the abstract one says. No condition. -/
import Derived.Test.YtmkjnglbfgajbaaQY
namespace Go.QAbs
set_option linter.unusedVariables false
set_option linter.unusedSimpArgs false
open Go.RowKit (Below)

section
variable {P : Program} {W0 : World} {B0 : Nat} {st st' : St} {ρ : Rho} {W : World} {e : Env} {a : Act}

theorem ret1_inv {v0 v : AV} (h : ret1 st v0 = some (v, st')) : v = v0 ∧ st' = st := by
  simp only [ret1, Option.some.injEq, Prod.mk.injEq] at h; exact ⟨h.1.symm, h.2.symm⟩

/-- An operation that only computes. -/
theorem fin_pure (hr : Rel W0 B0 st ρ W) {o : Oper} {s : Sem Value} {q : Option AV} {v : AV} (hrun : (execOp a.eval o).run P W = (do pure (Next.value (← s)) : Sem Next).run P W)
    (h : q.bind (ret1 st) = some (v, st')) (hok : ∀ v0, q = some v0 → ∃ x, s.run P W = .ok x W ∧ R (cx st ρ W st.A.length) v0 x) : Fin W0 B0 st ρ W ((execOp a.eval o).run P W) v st' := by
  simp only [Option.bind_eq_some_iff] at h
  obtain ⟨v0, h0, h1⟩ := h
  obtain ⟨rfl, rfl⟩ := ret1_inv h1
  obtain ⟨x, hx, hv⟩ := hok v h0
  exact Fin.val hr (by rw [hrun]; exact run_v hx) hv

theorem oopd_ok {x : Option Operand} {q : Option Opd} (h : oopd x = some q) {C : Cx} (he : EnvR C e a.tmps) : OptR C (oget e q) (x.map a.eval) := by
  cases x with
  | none => simp only [oopd, Option.some.injEq] at h; subst h; exact trivial
  | some x =>
    simp only [oopd, Option.map_eq_some_iff] at h
    obtain ⟨y, hy, rfl⟩ := h
    exact opd_ok hy he

theorem parts_inv {α : Type} {f : Nat → Operand → Option α} {parts : Array (Nat × Operand)} {l : List α} (h : (parts.toList.mapM fun p => f p.1 p.2) = some l) :
    l.length = parts.toList.length ∧ ∀ (i : Nat) (q : α) (p : Nat × Operand), l[i]? = some q → parts.toList[i]? = some p → f p.1 p.2 = some q := by
  obtain ⟨h1, h2⟩ := mapM_ok h
  exact ⟨h1.symm, fun i q p hq hp => h2 i p q hp hq⟩

theorem build_struct_run {t : TypeId} {fs : Array Field} {ps : List (Nat × Nat)} (ht : P.underlying t = some (.struct fs)) (hp : places P fs.toList = some ps) {zv : Value} (hz : (zeroValue t).run P W = .ok zv W)
    {parts : Array (Nat × Value)} {cs : Array Value} (hf : Instr.fill (fun i => ps.toArray[i]?) zv.cells parts.toList = some cs) : (Instr.build t parts).run P W = .ok (.agg cs) W := by
  have hm : (fs.mapM (fun f => (do pure (f.offset, ← sizeOf f.type) : Sem (Nat × Nat)))).run P W = .ok ps.toArray W := by
    have := mapM_places (P := P) (W := W) hp
    rw [← Array.toArray_toList (xs := fs), List.mapM_toArray, Sem.run_map, this]
    rfl
  simp only [Instr.build, Sem.run_bind, hz, Result.andThen_ok, run_und ht, hm, hf, Sem.run_pure]

theorem build_array_run {t el : TypeId} {n w : Nat} (ht : P.underlying t = some (.array n el)) (hw : sz P el = some w) {zv : Value} (hz : (zeroValue t).run P W = .ok zv W)
    {parts : Array (Nat × Value)} {cs : Array Value} (hf : Instr.fill (fun i => some (i * w, w)) zv.cells parts.toList = some cs) : (Instr.build t parts).run P W = .ok (.agg cs) W := by
  simp only [Instr.build, Sem.run_bind, hz, Result.andThen_ok, run_und ht, run_sz hw, hf, Sem.run_pure]

theorem bin_fin (hr : Rel W0 B0 st ρ W) (he : EnvR (cx st ρ W st.A.length) e a.tmps) {o : Oper} {op : BinOp} {t yt : TypeId} {x y : Operand} {p q : Opd} {v : AV} (hop : o.op = .binOp op t x y yt) (hp : opd x = some p) (hq : opd y = some q)
    (h : evalPO e st (.bin op p q) = some (v, st')) : Fin W0 B0 st ρ W ((execOp a.eval o).run P W) v st' := by
  simp only [evalPO] at h
  refine fin_pure hr (s := do eqGuard op t x y (a.eval x) (a.eval y); binOp op t (a.eval x) (a.eval y)) (by simp only [execOp, hop]) h ?_
  intro v0 h0
  obtain ⟨z, hz, hv⟩ := binV_ok (P := P) (W := W) (ox := x) (oy := y) h0 (opd_ok hp he) (opd_ok hq he)
  exact ⟨z, hz, hv _⟩

theorem eqs_fin (hr : Rel W0 B0 st ρ W) (he : EnvR (cx st ρ W st.A.length) e a.tmps) {o : Oper} {op : BinOp} {neg : Bool} {k : Nat} {ks : List (Nat × Nat)} {t yt : TypeId} {x y : Operand} {p q : Opd} {v : AV}
    (hop : o.op = .binOp op t x y yt) (hneg : (op = .eql ∧ neg = false) ∨ (op = .neq ∧ neg = true)) (hp : opd x = some p) (hq : opd y = some q)
    (h0 : k = 0 → flat P 6 t = some ks ∧ (∃ n, sz P t = some n) ∧ P.eqGuardType P.depth t = false ∧ aggT P t = some true)
    (h3 : k = 3 → ∃ el, P.underlying t = some (.pointer el)) (h4 : k = 4 → ∃ a b, P.underlying t = some (.map a b)) (h5 : k = 5 → ∃ a b c, P.underlying t = some (.func a b c)) (h6 : k = 6 → P.underlying t = some .bool)
    (h : evalPO e st (.eqs neg k ks p q) = some (v, st')) : Fin W0 B0 st ρ W ((execOp a.eval o).run P W) v st' := by
  simp only [evalPO, Option.bind_eq_some_iff, Option.some.injEq, Prod.mk.injEq] at h
  obtain ⟨b, hb, rfl, rfl⟩ := h
  obtain ⟨e1, e2⟩ := eqV_ok (P := P) (W := W) hb (opd_ok hp he) (opd_ok hq he) x y h0 h3 h4 h5 h6
  rcases hneg with ⟨rfl, rfl⟩ | ⟨rfl, rfl⟩
  · refine Fin.val hr (x := .bool b) ?_ (.bool _)
    simp only [execOp, hop]
    exact run_v e1
  · refine Fin.val hr (x := .bool (!b)) ?_ (.bool _)
    simp only [execOp, hop]
    exact run_v e2

theorem move_fin (hr : Rel W0 B0 st ρ W) (he : EnvR (cx st ρ W st.A.length) e a.tmps) {o : Oper} {x : Operand} {p : Opd} {v : AV} (hop : o.op = .move x ∨ o.op = .assign x) (hp : opd x = some p)
    (h : evalPO e st (.mv p) = some (v, st')) : Fin W0 B0 st ρ W ((execOp a.eval o).run P W) v st' := by
  simp only [evalPO, Option.some.injEq, Prod.mk.injEq] at h
  obtain ⟨rfl, rfl⟩ := h
  refine Fin.val hr (x := a.eval x) ?_ (opd_ok hp he)
  rcases hop with hop | hop <;> simp [execOp, hop]

theorem onil_fin (hr : Rel W0 B0 st ρ W) {o : Oper} {w : Nat} {v : AV} (hop : o.op = .move (.const (.slice none 0 0)) ∨ o.op = .assign (.const (.slice none 0 0)))
    (h : evalPO e st (.onil w) = some (v, st')) : Fin W0 B0 st ρ W ((execOp a.eval o).run P W) v st' := by
  simp only [evalPO, Option.bind_eq_some_iff, newRefK, Option.some.injEq, Prod.mk.injEq] at h
  obtain ⟨⟨i, st1⟩, hn, rfl, rfl⟩ := h
  obtain ⟨g, hg⟩ := new_nil hr (.of_new hn) none
  have hlen := g.ev.len
  refine ⟨.value (.slice none 0 0), _, _, _, ?_, .inl rfl, g, .ref (hg _ (by show st.A.length ≤ st1.A.length; omega))⟩
  rcases hop with hop | hop <;> simp [execOp, hop, Act.eval]

theorem box_fin (hr : Rel W0 B0 st ρ W) {s : Sem Value} {t : TypeId} {x : Value} {av v : AV} (hx : R (cx st ρ W st.A.length) av x) (hs : ∀ r W', (newVar t x).run P W = .ok r W' → s.run P W = .ok (.pointer (some r)) W') {o : Oper}
    (hrun : (execOp a.eval o).run P W = (do pure (Next.value (← s)) : Sem Next).run P W)
    (h : (av.wide.bind fun w => (st.new (.arr w 0 [av])).bind (newPtrK st.A.length)) = some (v, st')) : Fin W0 B0 st ρ W ((execOp a.eval o).run P W) v st' := by
  simp only [Option.bind_eq_some_iff, newPtrK, Option.some.injEq, Prod.mk.injEq] at h
  obtain ⟨w, hw, ⟨i, st1⟩, hn, rfl, rfl⟩ := h
  obtain ⟨ρ', W', e1, g, hv⟩ := box_ok (P := P) (t := t) hr hx hw (.of_new hn)
  exact ⟨_, _, _, _, by rw [hrun]; exact run_v (hs _ _ e1), .inl rfl, g, hv⟩

theorem boxnil_fin (hr : Rel W0 B0 st ρ W) {s : Sem Value} {t : TypeId} {w : Nat} {v : AV} (hs : ∀ r W', (newVar t (.slice none 0 0)).run P W = .ok r W' → s.run P W = .ok (.pointer (some r)) W') {o : Oper}
    (hrun : (execOp a.eval o).run P W = (do pure (Next.value (← s)) : Sem Next).run P W)
    (h : evalPO e st (.boxnil w) = some (v, st')) : Fin W0 B0 st ρ W ((execOp a.eval o).run P W) v st' := by
  simp only [evalPO, Option.bind_eq_some_iff, boxNilK, newPtrK, Option.some.injEq, Prod.mk.injEq] at h
  obtain ⟨⟨i, st1⟩, hn, ⟨j, st2⟩, hn2, rfl, rfl⟩ := h
  obtain ⟨ρ', W', e1, g, hv⟩ := boxnil_ok (P := P) (t := t) hr hn hn2
  exact ⟨_, _, _, _, by rw [hrun]; exact run_v (hs _ _ e1), .inl rfl, g, hv⟩


theorem flat_sz {t : TypeId} {ks : List (Nat × Nat)} (h : flat P 6 t = some ks) (ha : aggT P t = some true) : ∃ n, sz P t = some n := by
  unfold flat at h
  split at h
  · rename_i k hk; simp [aggT, hk] at ha
  · rename_i hk; simp [aggT, hk] at ha
  · rename_i hk; simp [aggT, hk] at ha
  · split at h
    · simp at h
    · simp only [Option.bind_eq_some_iff] at h
      obtain ⟨n, hn, _⟩ := h
      exact ⟨n, hn⟩
  · simp only [Option.bind_eq_some_iff] at h
    obtain ⟨n, hn, _⟩ := h
    exact ⟨n, hn⟩
  · simp at h

theorem b2s_slice {C : Cx} (ok : C.Ok) {x v : AV} (h : b2sV st x = some v) {u : Value} (hx : R C x u) : ∃ b n c, u = .slice b n c := by
  unfold b2sV at h
  split at h
  · simp at h
  · simp only [Option.bind_eq_some_iff, Option.some.injEq] at h
    obtain ⟨es, he, l, hl, rfl⟩ := h
    unfold elems at he
    split at he
    · cases hx; exact ⟨_, _, _, rfl⟩
    · cases hx <;> exact ⟨_, _, _, rfl⟩
    · rename_i l0 hns; exact absurd rfl (hns l0)
    · cases hx with
      | ref hp => obtain ⟨a, c, q⟩ := ok.ref hp; exact ⟨a, _, c, q⟩
    · simp at he

theorem arr_of {α : Type} {xs : Array α} {l : List α} (h : xs.toList = l) : xs = l.toArray := by rw [← h]

theorem builtin_fin (hr : Rel W0 B0 st ρ W) (he : EnvR (cx st ρ W st.A.length) e a.tmps) {o : Oper} {c : Call} {b : Builtin} (hop : o.op = .call c) (hb : c.callee = .builtin b) {po : PO} {v : AV}
    (hc : compBuiltin P b c.args.toList c.argTypes.toList = some po) (h : evalPO e st po = some (v, st')) : Fin W0 B0 st ρ W ((execOp a.eval o).run P W) v st' := by
  obtain ⟨cs, ex⟩ : ∃ cs : Array Bool, (execOp a.eval o).run P W = (builtin b c.argTypes o.type cs (c.args.map a.eval)).run P W := by
    simp only [execOp, hop, resolve, hb]
    exact ⟨_, rfl⟩
  unfold compBuiltin at hc
  split at hc
  · rename_i x t ha ht
    have ht := arr_of ht
    have ha : c.args.map a.eval = #[a.eval x] := by rw [arr_of ha]; simp
    have er : ∀ z, (Builtin.len_ #[t] o.type #[a.eval x]).run P W = .ok z W → (execOp a.eval o).run P W = .ok (.value z) W := by
      intro z hz
      rw [ex, ha, ht]
      exact run_v hz
    have key : ∀ k p, opd x = some p → po = .len k p → (k = 0 → P.underlying t = some .string) → (k = 1 → ∃ el, P.underlying t = some (.slice el)) → (k = 2 → ∃ k el, P.underlying t = some (.map k el)) → Fin W0 B0 st ρ W ((execOp a.eval o).run P W) v st' := by
      intro k p hp hk h0 h1 h2
      subst hk
      simp only [evalPO, Option.bind_eq_some_iff, Option.some.injEq, Prod.mk.injEq] at h
      obtain ⟨n, hn, rfl, rfl⟩ := h
      exact Fin.val hr (er _ (lenOf_ok (P := P) hr hn (opd_ok hp he) h0 h1 h2)) (.int _ _)
    split at hc
    · rename_i hu
      simp only [Option.map_eq_some_iff] at hc
      obtain ⟨p, hp, hk⟩ := hc
      exact key 0 p hp hk.symm (fun _ => hu) (by simp) (by simp)
    · rename_i el hu
      simp only [Option.map_eq_some_iff] at hc
      obtain ⟨p, hp, hk⟩ := hc
      exact key 1 p hp hk.symm (by simp) (fun _ => ⟨_, hu⟩) (by simp)
    · rename_i k el hu
      simp only [Option.map_eq_some_iff] at hc
      obtain ⟨p, hp, hk⟩ := hc
      exact key 2 p hp hk.symm (by simp) (by simp) (fun _ => ⟨_, _, hu⟩)
    · simp at hc
  · rename_i s x t u ha ht
    have ht := arr_of ht
    have ha : c.args.map a.eval = #[a.eval s, a.eval x] := by rw [arr_of ha]; simp
    have key : ∀ (el : TypeId) (i : TypeInfo) (p q : Opd), P.underlying t = some (.slice el) → ((∃ el', P.underlying u = some (.slice el')) ∨ P.underlying u = some .string) → P.info? el = some i → i.zero.map (·.cells.size) = some i.size →
        opd s = some p → opd x = some q → po = .app i.size i.bytes p q → Fin W0 B0 st ρ W ((execOp a.eval o).run P W) v st' := by
      intro el i p q hu hu2 hi hz hp hq hk
      subst hk
      simp only [evalPO, Option.bind_eq_some_iff] at h
      obtain ⟨ys, hys, h⟩ := h
      obtain ⟨z, ρ', W', hz, g, hv⟩ := appendV_ok (P := P) (ty := o.type) hr hys h (opd_ok hp he) (opd_ok hq he) hu hu2 hi rfl rfl hz
      refine ⟨_, _, _, _, ?_, .inl rfl, g, hv⟩
      rw [ex, ha, ht]
      exact run_v hz
    split at hc
    · rename_i el el' hu hu2
      simp only [Option.bind_eq_some_iff] at hc
      obtain ⟨i, hi, hc⟩ := hc
      split at hc
      · simp at hc
      · rename_i hcond
        simp only [Option.bind_eq_some_iff, Option.map_eq_some_iff] at hc
        obtain ⟨p, hp, q, hq, hk⟩ := hc
        exact key el i p q hu (.inl ⟨_, hu2⟩) hi (by by_cases h9 : i.zero.map (·.cells.size) = some i.size; exact h9; exact absurd (.inr h9) hcond) hp hq hk.symm
    · rename_i el hu hu2
      simp only [Option.bind_eq_some_iff] at hc
      obtain ⟨i, hi, hc⟩ := hc
      split at hc
      · rename_i hcond
        simp only [Option.bind_eq_some_iff, Option.map_eq_some_iff] at hc
        obtain ⟨p, hp, q, hq, hk⟩ := hc
        exact key el i p q hu (.inr hu2) hi hcond.2 hp hq hk.symm
      · simp at hc
    · simp at hc
  · rename_i x y ha
    have ha : c.args.map a.eval = #[a.eval x, a.eval y] := by rw [arr_of ha]; simp
    simp only [Option.bind_eq_some_iff, Option.map_eq_some_iff] at hc
    obtain ⟨p, hp, q, hq, rfl⟩ := hc
    simp only [evalPO] at h
    refine fin_pure hr (s := Builtin.min_ c.argTypes o.type #[a.eval x, a.eval y]) (by rw [ex, ha]; rfl) h ?_
    intro v0 h0
    obtain ⟨z, hz, hv⟩ := mnxV_ok (P := P) (W := W) h0 (opd_ok hp he) (opd_ok hq he) c.argTypes o.type
    exact ⟨z, by simpa using hz, hv _⟩
  · rename_i x y ha
    have ha : c.args.map a.eval = #[a.eval x, a.eval y] := by rw [arr_of ha]; simp
    simp only [Option.bind_eq_some_iff, Option.map_eq_some_iff] at hc
    obtain ⟨p, hp, q, hq, rfl⟩ := hc
    simp only [evalPO] at h
    refine fin_pure hr (s := Builtin.max_ c.argTypes o.type #[a.eval x, a.eval y]) (by rw [ex, ha]; rfl) h ?_
    intro v0 h0
    obtain ⟨z, hz, hv⟩ := mnxV_ok (P := P) (W := W) h0 (opd_ok hp he) (opd_ok hq he) c.argTypes o.type
    exact ⟨z, by simpa using hz, hv _⟩
  · rename_i m k t u ha ht
    have ht := arr_of ht
    have ha : c.args.map a.eval = #[a.eval m, a.eval k] := by rw [arr_of ha]; simp
    split at hc
    · rename_i key el hu
      simp only [Option.bind_eq_some_iff, Option.map_eq_some_iff] at hc
      obtain ⟨kk, hkk, p, hp, q, hq, rfl⟩ := hc
      simp only [evalPO, Option.bind_eq_some_iff, retT, Option.some.injEq, Prod.mk.injEq] at h
      obtain ⟨st1, hs, rfl, rfl⟩ := h
      obtain ⟨W', hrun, g⟩ := mdelV_ok (P := P) (u := u) (ty := o.type) hr hs (opd_ok hq he) (opd_ok hp he) hu hkk
      refine ⟨_, .tuple #[], ρ, W', ?_, .inl rfl, g, .tup (xs := []) rfl (by simp)⟩
      rw [ex, ha, ht]
      exact run_v hrun
    · simp at hc
  · simp at hc

theorem op_fin (hr : Rel W0 B0 st ρ W) (he : EnvR (cx st ρ W st.A.length) e a.tmps) {o : Oper} {own : Bool} {cm : CM} {po : PO} {v : AV} (hc : compOp P own cm o = some po) (hnc : ∀ m f l, po ≠ .call m f l)
    (h : evalPO e st po = some (v, st')) : Fin W0 B0 st ρ W ((execOp a.eval o).run P W) v st' := by
  have mv : ∀ x, (o.op = .move x ∨ o.op = .assign x) → ∀ p, opd x = some p → po = .mv p → Fin W0 B0 st ρ W ((execOp a.eval o).run P W) v st' := fun x hop p hp e' => by subst e'; exact move_fin hr he hop hp h
  unfold compOp at hc
  split at hc
  · rename_i x hop
    split at hc
    · split at hc
      · simp only [Option.bind_eq_some_iff] at hc
        obtain ⟨w, hw, hc⟩ := hc
        split at hc
        · simp at hc
        · simp only [Option.some.injEq] at hc; subst hc
          exact onil_fin hr (.inl hop) h
      · simp at hc
    · simp only [Option.map_eq_some_iff] at hc
      obtain ⟨p, hp, rfl⟩ := hc
      exact move_fin hr he (.inl hop) hp h
  · rename_i x hop
    split at hc
    · split at hc
      · simp only [Option.bind_eq_some_iff] at hc
        obtain ⟨w, hw, hc⟩ := hc
        split at hc
        · simp at hc
        · simp only [Option.some.injEq] at hc; subst hc
          exact onil_fin hr (.inr hop) h
      · simp at hc
    · simp only [Option.map_eq_some_iff] at hc
      obtain ⟨p, hp, rfl⟩ := hc
      exact move_fin hr he (.inr hop) hp h
  · -- pick
    rename_i c x y hop
    simp only [Option.bind_eq_some_iff, Option.map_eq_some_iff] at hc
    obtain ⟨c', hc', x', hx', y', hy', rfl⟩ := hc
    simp only [evalPO] at h
    refine fin_pure hr (s := do pure (if ← asBool (a.eval c) then a.eval x else a.eval y)) (by simp [execOp, hop]) h ?_
    intro v0 h0
    obtain ⟨t, ht, hv⟩ := pickV_ok h0 (opd_ok hx' he) (opd_ok hy' he) (opd_ok hc' he)
    exact ⟨_, by rw [ht]; simp [asBool], hv⟩
  · -- alloc
    rename_i el hop
    split at hc
    · rename_i u hu
      simp only [Option.bind_eq_some_iff] at hc
      obtain ⟨w, hw, hc⟩ := hc
      split at hc
      · simp at hc
      · split at hc
        · rename_i hz
          simp only [Option.some.injEq] at hc; subst hc
          refine boxnil_fin hr (s := Instr.alloc el true (.tuple #[])) (t := el) ?_ (by simp [execOp, hop]) h
          intro r W' hn
          have hzr : (zeroValue el).run P W = .ok (.slice none 0 0) W := by
            cases hi : P.info? el with
            | none => rw [hi] at hz; simp at hz
            | some i => rw [hi] at hz; simp at hz; simp [zeroValue, typeInfo, hi, hz]
          simp [Instr.alloc, hzr, hn]
        · simp at hc
    · simp only [Option.map_eq_some_iff] at hc
      obtain ⟨z, hz, rfl⟩ := hc
      obtain ⟨zv, hzr, hzc, _⟩ := run_zero (W := W) hz
      simp only [evalPO, Opd.get] at h
      refine box_fin hr (s := Instr.alloc el true (.tuple #[])) (t := el) (hzc _) ?_ (by simp [execOp, hop]) h
      intro r W' hn
      simp [Instr.alloc, hzr, hn]
  · -- box
    rename_i el x hop
    split at hc
    · split at hc
      · simp only [Option.bind_eq_some_iff] at hc
        obtain ⟨w, hw, hc⟩ := hc
        split at hc
        · simp at hc
        · simp only [Option.some.injEq] at hc; subst hc
          refine boxnil_fin hr (s := Instr.box el (.slice none 0 0)) (t := el) ?_ (by simp [execOp, hop, Act.eval]) h
          intro r W' hn
          simp [Instr.box, hn]
      · simp at hc
    · simp only [Option.map_eq_some_iff] at hc
      obtain ⟨p, hp, rfl⟩ := hc
      simp only [evalPO] at h
      refine box_fin hr (s := Instr.box el (a.eval x)) (t := el) (opd_ok hp he) ?_ (by simp [execOp, hop]) h
      intro r W' hn
      simp [Instr.box, hn]
  · -- build
    rename_i t parts hop
    split at hc
    · rename_i z fs hz hu
      simp only [Option.bind_eq_some_iff, Option.map_eq_some_iff] at hz hc
      obtain ⟨zv, hzz, rfl⟩ := hz
      obtain ⟨ps, hps, l, hl, rfl⟩ := hc
      simp only [evalPO, Option.bind_eq_some_iff, Option.some.injEq, Prod.mk.injEq] at h
      obtain ⟨cs, hf, rfl, rfl⟩ := h
      obtain ⟨hl1, hl2⟩ := parts_inv (f := fun i x => (ps[i]?).bind fun q => (opd x).map fun x => (q.1, q.2, x)) hl
      obtain ⟨x, hx, hv⟩ := build_ok (P := P) (W := W) (a := a) (place := fun i => ps.toArray[i]?) (cx_ok st ρ W st.A.length) hzz he hf ⟨hl1, fun i q p hq hp => by
        have := hl2 i q p hq hp
        simp only [Option.bind_eq_some_iff, Option.map_eq_some_iff] at this
        obtain ⟨q', hq', x', hx', rfl⟩ := this
        exact ⟨by simpa using hq', hx'⟩⟩ (fun zv hz cs' hf' => build_struct_run hu hps hz hf')
      exact Fin.val hr (by simp only [execOp, hop]; exact run_v hx) hv
    · rename_i z n el hz hu
      simp only [Option.bind_eq_some_iff, Option.map_eq_some_iff] at hz hc
      obtain ⟨zv, hzz, rfl⟩ := hz
      obtain ⟨w, hw, l, hl, rfl⟩ := hc
      simp only [evalPO, Option.bind_eq_some_iff, Option.some.injEq, Prod.mk.injEq] at h
      obtain ⟨cs, hf, rfl, rfl⟩ := h
      obtain ⟨hl1, hl2⟩ := parts_inv (f := fun i x => (opd x).map fun x => (i * w, w, x)) hl
      obtain ⟨x, hx, hv⟩ := build_ok (P := P) (W := W) (a := a) (place := fun i => some (i * w, w)) (cx_ok st ρ W st.A.length) hzz he hf ⟨hl1, fun i q p hq hp => by
        have := hl2 i q p hq hp
        simp only [Option.map_eq_some_iff] at this
        obtain ⟨x', hx', rfl⟩ := this
        exact ⟨rfl, hx'⟩⟩ (fun zv hz cs' hf' => build_array_run hu hw hz hf')
      exact Fin.val hr (by simp only [execOp, hop]; exact run_v hx) hv
    · simp at hc
  · -- slice literal
    rename_i t n parts hop
    split at hc
    · rename_i el hu
      simp only [Option.bind_eq_some_iff] at hc
      obtain ⟨w, hw, hc⟩ := hc
      split at hc
      · simp at hc
      · rename_i hcond
        simp only [Option.bind_eq_some_iff] at hc
        obtain ⟨z, hz, hc⟩ := hc
        split at hc
        · rename_i hzw
          simp only [Option.map_eq_some_iff] at hc
          obtain ⟨l, hl, rfl⟩ := hc
          simp only [evalPO, Option.bind_eq_some_iff] at h
          obtain ⟨es, hf, hk⟩ := h
          obtain ⟨hl1, hl2⟩ := parts_inv (f := fun i x => (opd x).map fun x => (i, x)) hl
          obtain ⟨cs, xs, hrun, hrl, hla, hcs, hlen⟩ := bslice_run (P := P) (W := W) (a := a) hu hw (by omega) (by omega) hz hzw (cx_ok st ρ W st.A.length) he hf ⟨hl1, fun i q p hq hp => by
            have := hl2 i q p hq hp
            simp only [Option.map_eq_some_iff] at this
            obtain ⟨x', hx', rfl⟩ := this
            exact ⟨rfl, hx'⟩⟩
          obtain ⟨ρ', g, hv⟩ := bslK_ok (el := el) hr hrl hla hcs hlen hk
          exact ⟨_, _, _, _, by simp only [execOp, hop]; exact run_v hrun, .inl rfl, g, hv⟩
        · simp at hc
    · simp at hc
  · -- load
    rename_i t x hop
    simp only [Option.bind_eq_some_iff, Option.map_eq_some_iff] at hc
    obtain ⟨g, hg, n, hn, p, hp, rfl⟩ := hc
    simp only [evalPO] at h
    refine fin_pure hr (s := Instr.loadAt t (a.eval x)) (by simp [execOp, hop]) h ?_
    intro v0 h0
    obtain ⟨b, z, hb, hz, hv⟩ := loadP_ok (P := P) hr h0 (opd_ok hp he) hg hn
    exact ⟨z, by rw [hb]; simp [Instr.loadAt, Instr.sureAddr, hz], hv⟩
  · -- store
    rename_i t p x hop
    simp only [Option.bind_eq_some_iff, Option.map_eq_some_iff] at hc
    obtain ⟨n, hn, p', hp, x', hx, rfl⟩ := hc
    simp only [evalPO, Option.bind_eq_some_iff, retU, Option.some.injEq, Prod.mk.injEq] at h
    obtain ⟨st1, hs, rfl, rfl⟩ := h
    obtain ⟨b, W', hb, hrun, g⟩ := storeP_ok (P := P) hr hs (opd_ok hx he) (opd_ok hp he) hn
    refine ⟨.skip, Go.undef, ρ, W', ?_, .inr ⟨rfl, rfl⟩, g, .undef⟩
    simp only [execOp, hop]
    refine run_u ?_
    rw [hb]; simp [Instr.storeAt, Instr.sureAddr, hrun]
  · -- nil check
    rename_i x hop
    simp only [Option.map_eq_some_iff] at hc
    obtain ⟨p, hp, rfl⟩ := hc
    simp only [evalPO, Option.bind_eq_some_iff] at h
    obtain ⟨v0, h0, h1⟩ := h
    obtain ⟨rfl, rfl⟩ := ret1_inv h1
    obtain ⟨hrun, hv⟩ := nilckV_ok (P := P) (W := W) (cx_ok _ _ _ _) h0 (opd_ok hp he) a.eval o x hop rfl
    exact Fin.val hr hrun hv
  · -- binary
    rename_i op t x y yt hop
    simp only [Option.bind_eq_some_iff] at hc
    obtain ⟨p, hp, q, hq, hc⟩ := hc
    have hbin : some (.bin op p q) = some po → Fin W0 B0 st ρ W ((execOp a.eval o).run P W) v st' := by
      intro hc
      simp only [Option.some.injEq] at hc; subst hc
      exact bin_fin hr he hop hp hq h
    have heq : ∀ (k : Nat) (ks : List (Nat × Nat)), eqsOf k ks p q op = some po →
        (k = 0 → flat P 6 t = some ks ∧ (∃ n, sz P t = some n) ∧ P.eqGuardType P.depth t = false ∧ aggT P t = some true) →
        (k = 3 → ∃ el, P.underlying t = some (.pointer el)) → (k = 4 → ∃ a b, P.underlying t = some (.map a b)) → (k = 5 → ∃ a b c, P.underlying t = some (.func a b c)) → (k = 6 → P.underlying t = some .bool) →
        Fin W0 B0 st ρ W ((execOp a.eval o).run P W) v st' := by
      intro k ks hc h0 h3 h4 h5 h6
      unfold eqsOf at hc
      split at hc
      · simp only [Option.some.injEq] at hc; subst hc
        exact eqs_fin hr he hop (.inl ⟨rfl, rfl⟩) hp hq h0 h3 h4 h5 h6 h
      · simp only [Option.some.injEq] at hc; subst hc
        exact eqs_fin hr he hop (.inr ⟨rfl, rfl⟩) hp hq h0 h3 h4 h5 h6 h
      · simp at hc
    split at hc
    · exact hbin hc
    · exact hbin hc
    · rename_i hk; exact heq 6 [] hc (by simp) (by simp) (by simp) (by simp) (fun _ => hk)
    · rename_i fs hk
      split at hc
      · simp at hc
      · rename_i hg
        simp only [Option.bind_eq_some_iff] at hc
        obtain ⟨ks, hks, hc⟩ := hc
        exact heq 0 ks hc (fun _ => ⟨hks, flat_sz hks (by simp [aggT, hk]), by simpa using hg, by simp [aggT, hk]⟩) (by simp) (by simp) (by simp) (by simp)
    · rename_i n el hk
      split at hc
      · simp at hc
      · rename_i hg
        simp only [Option.bind_eq_some_iff] at hc
        obtain ⟨ks, hks, hc⟩ := hc
        exact heq 0 ks hc (fun _ => ⟨hks, flat_sz hks (by simp [aggT, hk]), by simpa using hg, by simp [aggT, hk]⟩) (by simp) (by simp) (by simp) (by simp)
    · rename_i el hk; exact heq 3 [] hc (by simp) (fun _ => ⟨_, hk⟩) (by simp) (by simp) (by simp)
    · rename_i x1 x2 hk; exact heq 4 [] hc (by simp) (by simp) (fun _ => ⟨_, _, hk⟩) (by simp) (by simp)
    · rename_i x1 x2 x3 hk; exact heq 5 [] hc (by simp) (by simp) (by simp) (fun _ => ⟨_, _, _, hk⟩) (by simp)
    · simp at hc
  · -- unary
    rename_i op t x hop
    simp only [Option.map_eq_some_iff] at hc
    obtain ⟨p, hp, rfl⟩ := hc
    simp only [evalPO] at h
    refine fin_pure hr (s := Op.unary op (a.eval x)) (by simp only [execOp, hop]) h ?_
    intro v0 h0
    obtain ⟨z, hz, hv⟩ := unV_ok (P := P) (W := W) h0 (opd_ok hp he)
    exact ⟨z, hz, hv _⟩
  · -- conversion
    rename_i s d x hop
    split at hc
    · rename_i k0 k hs hd
      simp only [Option.map_eq_some_iff] at hc
      obtain ⟨p, hp, rfl⟩ := hc
      simp only [evalPO] at h
      refine fin_pure hr (s := convert s d (a.eval x)) (by simp only [execOp, hop]) h ?_
      intro v0 h0
      obtain ⟨z, hz, hv⟩ := cintV_ok (P := P) (W := W) h0 (opd_ok hp he) hs hd
      exact ⟨z, hz, hv _⟩
    · rename_i hs hd
      simp only [Option.map_eq_some_iff] at hc
      obtain ⟨p, hp, rfl⟩ := hc
      simp only [evalPO] at h
      refine fin_pure hr (s := convert s d (a.eval x)) (by simp only [execOp, hop]) h ?_
      intro v0 h0
      obtain ⟨z, hz, hv⟩ := cstrV_ok (P := P) (W := W) h0 (opd_ok hp he) hs hd
      exact ⟨z, hz, hv _⟩
    · rename_i el hs hd
      split at hc
      · rename_i hel
        simp only [Option.map_eq_some_iff] at hc
        obtain ⟨p, hp, rfl⟩ := hc
        simp only [evalPO] at h
        refine fin_pure hr (s := convert s d (a.eval x)) (by simp only [execOp, hop]) h ?_
        intro v0 h0
        obtain ⟨z, hz, hv⟩ := b2sV_ok (P := P) hr h0 (opd_ok hp he)
        refine ⟨z, ?_, hv _⟩
        obtain ⟨bb, n, c, hx⟩ := b2s_slice (cx_ok _ _ _ _) h0 (opd_ok hp he)
        rw [hx] at hz ⊢
        rw [run_convert_bytes_string W s d el bb n c hs hel hd]
        exact hz
      · simp at hc
    · simp at hc
  · -- a function value
    rename_i fn f c hop
    simp only [Option.bind_eq_some_iff, Option.map_eq_some_iff] at hc
    obtain ⟨f', hf, c', hc', rfl⟩ := hc
    simp only [evalPO, Option.some.injEq, Prod.mk.injEq] at h
    obtain ⟨rfl, rfl⟩ := h
    refine Fin.val hr (x := .func fn (f.map a.eval) (c.map a.eval)) (by simp only [execOp, hop]; exact run_v (by simp [Instr.makeFunc])) ?_
    have r1 := opds_ok hf he
    have r2 := opds_ok hc' he
    rw [show f.map a.eval = (f.toList.map a.eval).toArray by rw [← Array.toList_map, Array.toArray_toList], show c.map a.eval = (c.toList.map a.eval).toArray by rw [← Array.toList_map, Array.toArray_toList]]
    exact .func fn r1.1 r2.1 r1.2 r2.2
  · -- make a map
    rename_i t hop
    simp only [Option.some.injEq] at hc; subst hc
    simp only [evalPO, Option.bind_eq_some_iff, newMapK, Option.some.injEq, Prod.mk.injEq] at h
    obtain ⟨⟨i, st1⟩, hn, rfl, rfl⟩ := h
    obtain ⟨g, hg⟩ := new_map hr (.of_new hn)
    have hlen := g.ev.len
    refine ⟨.value (.map (some W.heap.size)), _, _, _, ?_, .inl rfl, g, .map (hg _ (by show st.A.length ≤ st1.A.length; omega))⟩
    simp only [execOp, hop]
    exact run_v (by simp [Instr.makeMap, newObj, Sem.run])
  · -- make a slice
    rename_i t l c hop
    split at hc
    · rename_i el hu
      simp only [Option.bind_eq_some_iff] at hc
      obtain ⟨i, hi, hc⟩ := hc
      split at hc
      · simp at hc
      · rename_i hw0
        simp only [Option.bind_eq_some_iff] at hc
        obtain ⟨z, hz, hc⟩ := hc
        split at hc
        · rename_i hzw
          simp only [Option.bind_eq_some_iff, Option.map_eq_some_iff] at hc
          obtain ⟨l', hl, c', hc', rfl⟩ := hc
          simp only [evalPO] at h
          obtain ⟨x, ρ', W', hx, g, hv⟩ := mkslV_ok (P := P) hr h (opd_ok hl he) (opd_ok hc' he) hu hi rfl rfl hw0 hz hzw
          exact ⟨_, _, _, _, by simp only [execOp, hop]; exact run_v hx, .inl rfl, g, hv⟩
        · simp at hc
    · simp at hc
  · -- slice
    rename_i t x lo hi hop
    simp only [Option.bind_eq_some_iff] at hc
    obtain ⟨p, hp, lo', hlo, hi', hhi, hc⟩ := hc
    split at hc
    · rename_i hu
      simp only [Option.some.injEq] at hc; subst hc
      simp only [evalPO] at h
      refine fin_pure hr (s := Instr.sliceAt t (a.eval x) (lo.map a.eval) (hi.map a.eval) none) (by simp only [execOp, hop, Option.map_none]) h ?_
      intro v0 h0
      obtain ⟨z, hz, hv⟩ := slcSV_ok (P := P) (W := W) h0 (opd_ok hp he) (oopd_ok hlo he) (oopd_ok hhi he) hu
      exact ⟨z, hz, hv _⟩
    · rename_i el hu
      simp only [Option.bind_eq_some_iff] at hc
      obtain ⟨w, hw, hc⟩ := hc
      split at hc
      · simp at hc
      · rename_i hw0
        simp only [Option.some.injEq] at hc; subst hc
        simp only [evalPO] at h
        refine fin_pure hr (s := Instr.sliceAt t (a.eval x) (lo.map a.eval) (hi.map a.eval) none) (by simp only [execOp, hop, Option.map_none]) h ?_
        intro v0 h0
        exact slcV_ok (P := P) hr h0 (opd_ok hp he) (oopd_ok hlo he) (oopd_ok hhi he) hu hw hw0
    · simp at hc
  · -- address of a field
    rename_i s x f hop
    split at hc
    · rename_i fs hu
      simp only [Option.bind_eq_some_iff] at hc
      obtain ⟨q, hq, n, hn, hc⟩ := hc
      split at hc
      · simp at hc
      · rename_i hn0
        simp only [Option.map_eq_some_iff] at hc
        obtain ⟨p, hp, rfl⟩ := hc
        simp only [evalPO] at h
        refine fin_pure hr (s := Instr.fieldAt s (a.eval x) f) (by simp only [execOp, hop]) h ?_
        intro v0 h0
        exact fadrV_ok (P := P) h0 (opd_ok hp he) hu hq rfl hn hn0
    · simp at hc
  · -- field
    rename_i s x f hop
    split at hc
    · rename_i fs hu
      simp only [Option.bind_eq_some_iff, Option.map_eq_some_iff] at hc
      obtain ⟨q, hq, n, hn, g, hg, p, hp, rfl⟩ := hc
      simp only [evalPO] at h
      refine fin_pure hr (s := Instr.field s (a.eval x) f) (by simp only [execOp, hop]) h ?_
      intro v0 h0
      exact fldV_ok (P := P) (W := W) (cx_ok _ _ _ _) h0 (opd_ok hp he) hu hq rfl hg hn
    · simp at hc
  · -- address of an element
    rename_i t x i hop
    split at hc
    · rename_i el hu
      simp only [Option.bind_eq_some_iff] at hc
      obtain ⟨w, hw, hc⟩ := hc
      split at hc
      · simp at hc
      · simp only [Option.bind_eq_some_iff, Option.map_eq_some_iff] at hc
        obtain ⟨p, hp, q, hq, rfl⟩ := hc
        simp only [evalPO] at h
        refine fin_pure hr (s := Instr.indexAt t (a.eval x) (a.eval i)) (by simp only [execOp, hop]) h ?_
        intro v0 h0
        exact ixSV_ok (P := P) hr h0 (opd_ok hp he) (opd_ok hq he) hu hw
    · rename_i n el hu
      simp only [Option.bind_eq_some_iff] at hc
      obtain ⟨w, hw, hc⟩ := hc
      split at hc
      · simp at hc
      · simp only [Option.bind_eq_some_iff, Option.map_eq_some_iff] at hc
        obtain ⟨p, hp, q, hq, rfl⟩ := hc
        simp only [evalPO] at h
        refine fin_pure hr (s := Instr.indexAt t (a.eval x) (a.eval i)) (by simp only [execOp, hop]) h ?_
        intro v0 h0
        exact ixAV_ok (P := P) h0 (opd_ok hp he) (opd_ok hq he) hu hw
    · simp at hc
  · -- element
    rename_i t x i hop
    split at hc
    · rename_i hu
      simp only [Option.bind_eq_some_iff, Option.map_eq_some_iff] at hc
      obtain ⟨p, hp, q, hq, rfl⟩ := hc
      simp only [evalPO] at h
      refine fin_pure hr (s := Instr.index t (a.eval x) (a.eval i)) (by simp only [execOp, hop]) h ?_
      intro v0 h0
      obtain ⟨z, hz, hv⟩ := ixStrV_ok (P := P) (W := W) h0 (opd_ok hp he) (opd_ok hq he) hu
      exact ⟨z, hz, hv _⟩
    · rename_i n el hu
      simp only [Option.bind_eq_some_iff, Option.map_eq_some_iff] at hc
      obtain ⟨w, hw, g, hg, p, hp, q, hq, rfl⟩ := hc
      simp only [evalPO] at h
      refine fin_pure hr (s := Instr.index t (a.eval x) (a.eval i)) (by simp only [execOp, hop]) h ?_
      intro v0 h0
      exact ixArrV_ok (P := P) (W := W) (cx_ok _ _ _ _) h0 (opd_ok hp he) (opd_ok hq he) hu hg hw
    · simp at hc
  · -- lookup
    rename_i t x i ok hop
    split at hc
    · rename_i k el hu
      simp only [Option.bind_eq_some_iff, Option.map_eq_some_iff] at hc
      obtain ⟨kk, hkk, z, hz, p, hp, q, hq, rfl⟩ := hc
      simp only [evalPO] at h
      refine fin_pure hr (s := Instr.lookup t (a.eval x) (a.eval i) ok) (by simp only [execOp, hop]) h ?_
      intro v0 h0
      exact lookV_ok (P := P) hr h0 (opd_ok hq he) (opd_ok hp he) hu hkk hz
    · simp at hc
  · -- map update
    rename_i t m k x hop
    split at hc
    · rename_i key el hu
      simp only [Option.bind_eq_some_iff, Option.map_eq_some_iff] at hc
      obtain ⟨kk, hkk, m', hm, k', hk, x', hx, rfl⟩ := hc
      simp only [evalPO, Option.bind_eq_some_iff, retU, Option.some.injEq, Prod.mk.injEq] at h
      obtain ⟨st1, hs, rfl, rfl⟩ := h
      obtain ⟨W', hrun, g⟩ := mupdV_ok (P := P) hr hs (opd_ok hk he) (opd_ok hx he) (opd_ok hm he) hu hkk
      refine ⟨.skip, Go.undef, ρ, W', ?_, .inr ⟨rfl, rfl⟩, g, .undef⟩
      simp only [execOp, hop]
      exact run_u hrun
    · simp at hc
  · -- insert
    rename_i t m k x hop
    split at hc
    · rename_i key el hu
      simp only [Option.bind_eq_some_iff, Option.map_eq_some_iff] at hc
      obtain ⟨kk, hkk, m', hm, k', hk, x', hx, rfl⟩ := hc
      simp only [evalPO, Option.bind_eq_some_iff, retU, Option.some.injEq, Prod.mk.injEq] at h
      obtain ⟨st1, hs, rfl, rfl⟩ := h
      obtain ⟨W', hrun, g⟩ := mupdV_ok (P := P) hr hs (opd_ok hk he) (opd_ok hx he) (opd_ok hm he) hu hkk
      refine ⟨.skip, Go.undef, ρ, W', ?_, .inr ⟨rfl, rfl⟩, g, .undef⟩
      simp only [execOp, hop]
      exact run_u hrun
    · simp at hc
  · -- extract
    rename_i x i hop
    simp only [Option.map_eq_some_iff] at hc
    obtain ⟨p, hp, rfl⟩ := hc
    simp only [evalPO] at h
    refine fin_pure hr (s := Instr.extract (a.eval x) i) (by simp only [execOp, hop]) h ?_
    intro v0 h0
    exact extV_ok (P := P) (W := W) h0 (opd_ok hp he)
  · -- call
    rename_i c hop
    split at hc
    · rename_i b hb
      exact builtin_fin hr he hop hb hc h
    · simp only [Option.bind_eq_some_iff, Option.map_eq_some_iff] at hc
      obtain ⟨f', hf, l, hl, rfl⟩ := hc
      exact absurd rfl (hnc _ _ _)
    · simp at hc
  · simp at hc

end
end Go.QAbs
