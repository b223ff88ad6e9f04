/- What a function gives is so. No condition. -/
import Derived.Test.YtmkjnglbfgajbaaQP7
import Derived.Test.YtmkjnglbfgajbaaQC
namespace Go.QAbs
set_option linter.unusedVariables false
set_option linter.unusedSimpArgs false
open Go.RowKit (Below)

section
variable {P : Program} {O : Orc} {W0 : World} {B0 : Nat} {st st' : St} {ρ : Rho} {W : World} {e : Env} {a : Act} {nt : Nat}

theorem results_list {f : ResultVar → Sem Value} : ∀ {rvs : List ResultVar} {rs : List RV} {vs : List AV}, rvs.mapM (compRes P) = some rs → resL st e rs = some vs →
    (∀ (rv : ResultVar) (q : RV) (v : AV), compRes P rv = some q → resV st e q = some v → ∃ x, (f rv).run P W = .ok x W ∧ R (cx st ρ W st.A.length) v x) →
    ∃ xs : List Value, (rvs.mapM f).run P W = .ok xs W ∧ RL (cx st ρ W st.A.length) vs xs
  | [], rs, vs, h, hv, _ => by
    simp at h; subst h
    simp only [resL, Option.some.injEq] at hv; subst hv
    exact ⟨[], by simp, .nil _⟩
  | rv :: rvs, rs, vs, h, hv, hf => by
    simp only [List.mapM_cons, Option.pure_def, Option.bind_eq_bind, Option.bind_eq_some_iff, Option.some.injEq] at h
    obtain ⟨q, hq, qs, hqs, rfl⟩ := h
    simp only [resL, Option.bind_eq_some_iff, Option.map_eq_some_iff] at hv
    obtain ⟨v, hv, vs', hvs, rfl⟩ := hv
    obtain ⟨x, hx, hxv⟩ := hf rv q v hq hv
    obtain ⟨xs, hxs, hxr⟩ := results_list hqs hvs hf
    exact ⟨x :: xs, by simp [hx, hxs], .cons hxv hxr⟩

theorem result_ok {fn : Func} {rs : List RV} (hc : fn.results.toList.mapM (compRes P) = some rs) {v : AV} (hv : result st e rs = some v) (hr : Rel W0 B0 st ρ W) (he : EnvR (cx st ρ W st.A.length) e a.tmps) :
    ∃ x, (results fn a.tmps).run P W = .ok x W ∧ R (cx st ρ W st.A.length) v x := by
  simp only [result, Option.map_eq_some_iff] at hv
  obtain ⟨vs, hvs, rfl⟩ := hv
  obtain ⟨xs, hxs, hxr⟩ := results_list (P := P) (ρ := ρ) (W := W) hc hvs (fun rv q v hq hv => compRes_ok hq hr he hv)
  have hm : (fn.results.mapM (resF a.tmps)).run P W = .ok xs.toArray W := by
    rw [← Array.toArray_toList (xs := fn.results), List.mapM_toArray, Sem.run_map, Array.toArray_toList, hxs]
    rfl
  refine ⟨if h : xs.toArray.size = 1 then xs.toArray[0] else .tuple xs.toArray, ?_, ?_⟩
  · rw [results_eq, Sem.run_bind, hm]
    simp only [Result.andThen_ok, Sem.run_pure]
  · match vs, xs, hxr with
    | [], xs, h => rw [h.nil_inv]; simpa [tupOf] using R.tup' (C := cx st ρ W st.A.length) (.nil _)
    | [v], xs, h =>
      obtain ⟨x, ys, rfl, h1, h2⟩ := h.cons_inv
      rw [h2.nil_inv]
      simpa [tupOf] using h1
    | v :: w :: vs, xs, h =>
      obtain ⟨x, ys, rfl, h1, h2⟩ := h.cons_inv
      obtain ⟨y, zs, rfl, h3, h4⟩ := h2.cons_inv
      rw [dif_neg (by simp)]
      exact R.tup' (.cons h1 (.cons h3 h4))

theorem initEnv_look : ∀ {vs : List AV} {xs : List Value} {n t : Nat} {C : Cx}, RL C vs xs → look (initEnv n vs) t = .any ∨ (n ≤ t ∧ ∃ x, xs[t - n]? = some x ∧ R C (look (initEnv n vs) t) x)
  | [], xs, n, t, C, _ => .inl rfl
  | v :: vs, xs, n, t, C, h => by
    obtain ⟨x, ys, rfl, h1, h2⟩ := h.cons_inv
    simp only [initEnv, look]
    split
    · rename_i hk; subst hk
      exact .inr ⟨Nat.le_refl _, x, by simp, h1⟩
    · rcases initEnv_look (n := n + 1) (t := t) h2 with q | ⟨q, y, hy, hr⟩
      · exact .inl q
      · refine .inr ⟨by omega, y, ?_, hr⟩
        rw [show t - n = (t - (n + 1)) + 1 by omega]
        simpa using hy

theorem initEnv_ok {C : Cx} {vs : List AV} {xs : List Value} (h : RL C vs xs) (k : Nat) : EnvR C (initEnv 0 vs) (xs.toArray ++ Array.replicate k Go.undef) := by
  intro t
  rcases initEnv_look (n := 0) (t := t) h with q | ⟨_, x, hx, hr⟩
  · rw [q]; exact .any _
  · have hlt := lt_of_get hx
    simp only [Nat.sub_zero] at hx hlt
    have : (xs.toArray ++ Array.replicate k Go.undef).getD t Go.undef = x := by
      simp only [Array.getD_eq_getD_getElem?]
      rw [Array.getElem?_append_left (by simpa using hlt)]
      simp [hx]
    rw [this]; exact hr

theorem body_ok (hO : OSound P O) (hm : P.follows .mixedOrders = true) (n : Nat) {f : FuncId} {fn : Func} {keep : Bool} {hs : List Hint} {pf : PF} (hf : P.funcs[f]? = some fn) (hc : compF P keep hs fn = some pf)
    {args : List AV} {v : AV} (h : callBody O (fun F => iter F n) pf args st = some (v, st')) (hr : Rel W0 B0 st ρ W) {xs : List Value} (hx : RL (cx st ρ W st.A.length) args xs) :
    Calls P f xs.toArray W fun e W' => ∃ x ρ', e = .returned x ∧ Goes W0 B0 st ρ W st' ρ' W' ∧ R (cx st' ρ' W' st'.A.length) v x := by
  simp only [compF, Option.bind_eq_some_iff, Option.map_eq_some_iff] at hc
  obtain ⟨c, hb, ⟨pc, hs'⟩, hcc, rs, hrs, rfl⟩ := hc
  simp only [callBody, Option.bind_eq_some_iff] at h
  obtain ⟨⟨ex, e1, st1⟩, hex, hend⟩ := h
  refine calls_of_wp hf hb ?_
  have hsz : fn.ntmps ≤ (xs.toArray ++ Array.replicate (fn.ntmps - xs.toArray.size) Go.undef).size := by simp; omega
  cases keep with
  | true =>
    simp only [if_true] at hex
    refine exec_ok hO hm n c hs hs' pc hcc (initEnv 0 args) st ρ W { tmps := xs.toArray ++ Array.replicate (fn.ntmps - xs.toArray.size) Go.undef, defers := [] } (ex, e1, st1) _ hex hr (initEnv_ok hx _) hsz ?_
    intro a' ρ' W' g he' _ hd'
    have key : (result st1 e1 rs).bind (ret1 st1) = some (v, st') → a'.defers = [] ∧ ∃ w, (results fn a'.tmps).run P W' = .ok w W' ∧ ∃ x ρ', Ending.returned w = .returned x ∧ Goes W0 B0 st ρ W st' ρ' W' ∧ R (cx st' ρ' W' st'.A.length) v x := by
      intro hend
      simp only [Option.bind_eq_some_iff] at hend
      obtain ⟨v0, hv, hend⟩ := hend
      obtain ⟨rfl, rfl⟩ := ret1_inv hend
      obtain ⟨x, hx, hxv⟩ := result_ok hrs hv g.rel he'
      exact ⟨hd', x, hx, x, ρ', rfl, g, hxv⟩
    cases ex with
    | norm => exact key (by simpa [endK] using hend)
    | ret => exact key (by simpa [endK] using hend)
    | ex id => simp [endK] at hend
  | false =>
    simp only [Bool.false_eq_true, if_false] at hex
    have hpl : st.push.A.length = st.A.length + 1 := by simp [St.push]
    have hpush := Sub.push st
    refine exec_ok hO hm n c hs hs' pc hcc (initEnv 0 args) st.push ρ W { tmps := xs.toArray ++ Array.replicate (fn.ntmps - xs.toArray.size) Go.undef, defers := [] } (ex, e1, st1) _ hex (hpush.rel hr)
      (initEnv_ok ((hx.mono (hpush.cx (Nat.le_refl _))).mono (cx_lv (by omega))) _) hsz ?_
    intro a' ρ' W' g he' _ hd'
    have key : (result st1 e1 rs).bind (sealK st1) = some (v, st') → a'.defers = [] ∧ ∃ w, (results fn a'.tmps).run P W' = .ok w W' ∧ ∃ x ρ', Ending.returned w = .returned x ∧ Goes W0 B0 st ρ W st' ρ' W' ∧ R (cx st' ρ' W' st'.A.length) v x := by
      intro hend
      simp only [Option.bind_eq_some_iff, sealK, leaveK, popK, Option.some.injEq, Prod.mk.injEq] at hend
      obtain ⟨v0, hv, ⟨v1, st2⟩, hseal, ⟨A', r0⟩, hpop, rfl, rfl⟩ := hend
      obtain ⟨x, hx, hxv⟩ := result_ok hrs hv g.rel he'
      have hl1 : st1.A.length = st.A.length + 1 := by rw [g.ev.len, hpl]
      obtain ⟨g2, hv2⟩ := sealV_ok deep st1.A.length st1 v0 x v1 st2 g.rel (by omega) hxv hseal
      obtain ⟨g3, hle⟩ := leave_ok g2.rel (g.ev.trans g2.ev) hpop
      refine ⟨hd', x, hx, x, ρ', rfl, g3, ?_⟩
      rw [hl1] at hv2
      have hl3 : (⟨A', r0.1, r0.2⟩ : St).A.length = st.A.length := g3.ev.len
      rw [hl3]
      exact R.mono (show R (cx st2 ρ' W' st.A.length) v1 x from hv2) hle
    cases ex with
    | norm => exact key (by simpa [endK] using hend)
    | ret => exact key (by simpa [endK] using hend)
    | ex id => simp [endK] at hend

/-- A table that says what is so. -/
def EntOk (P : Program) (f : FuncId) : Ent → Prop
  | .pf pf => ∃ fn keep hs, P.funcs[f]? = some fn ∧ compF P keep hs fn = some pf
  | .base o => (∀ args, FrP fun st => o args st) ∧ ∀ (args : List AV) (st : St) (v : AV) (st' : St), o args st = some (v, st') → ∀ (W0 : World) (B0 : Nat) (ρ : Rho) (W : World) (xs : List Value), Rel W0 B0 st ρ W → RL (cx st ρ W st.A.length) args xs →
      Calls P f xs.toArray W fun e W' => ∃ x ρ', e = .returned x ∧ Goes W0 B0 st ρ W st' ρ' W' ∧ R (cx st' ρ' W' st'.A.length) v x

def TabOk (P : Program) (T : Tab) : Prop := ∀ (f : FuncId) (x : Ent), T f = some x → (∀ (ys : Array Value) (W : World), (callFunc f ys).run P W = .ok (.enter f ys) W) ∧ EntOk P f x

theorem callN_ok (hm : P.follows .mixedOrders = true) {T : Tab} (hT : TabOk P T) : ∀ n, OSound P (callN T n)
  | 0 => ⟨fun f args => FrP.nope, fun h => by simp [callN] at h, fun h => by simp [callN] at h⟩
  | n + 1 => by
    have ih := callN_ok hm hT n
    refine ⟨fun f args => ?_, fun {f args st r} h => ?_, fun {f args st v st'} h => ?_⟩
    · show FrP fun st => (T f).bind (entK (callN T n) (fun F => iter F n) args st)
      cases hx : T f with
      | none => exact FrP.nope
      | some x =>
        have hk := (hT f x hx).2
        cases x with
        | pf pf => exact fr_body ih.frame n pf args
        | base o => exact hk.1 args
    · simp only [callN, Option.bind_eq_some_iff] at h
      obtain ⟨x, hx, _⟩ := h
      exact (hT f x hx).1
    · intro W0 B0 ρ W xs hr hxs
      simp only [callN, Option.bind_eq_some_iff] at h
      obtain ⟨x, hx, h⟩ := h
      have hk := (hT f x hx).2
      cases x with
      | pf pf =>
        obtain ⟨fn, keep, hs, hf, hc⟩ := hk
        exact body_ok ih hm n hf hc h hr hxs
      | base o => exact hk.2 args st v st' h W0 B0 ρ W xs hr hxs

/-- WHAT A FUNCTION GIVES IS SO. -/
theorem S_ok (hm : P.follows .mixedOrders = true) {T : Tab} (hT : TabOk P T) : OSound P (S T) := by
  refine ⟨fun f args st r h => ?_, fun {f args st r} h => ?_, fun {f args st v st'} h => ?_⟩
  · obtain ⟨n, hn⟩ := S_iff.1 h
    obtain ⟨h1, h2⟩ := (callN_ok hm hT n).frame f args st r hn
    exact ⟨h1, fun M i B hh => S_iff.2 ⟨n, h2 M i B hh⟩⟩
  · obtain ⟨n, hn⟩ := S_iff.1 h
    exact (callN_ok hm hT n).enter hn
  · intro W0 B0 ρ W xs hr hxs
    obtain ⟨n, hn⟩ := S_iff.1 h
    exact (callN_ok hm hT n).calls hn hr hxs

def lookT : List (FuncId × Ent) → Tab
  | [], _ => none
  | (g, x) :: l, f => if g = f then some x else lookT l f

def AllOk (P : Program) : List (FuncId × Ent) → Prop
  | [] => True
  | (f, x) :: l => ((∀ (ys : Array Value) (W : World), (callFunc f ys).run P W = .ok (.enter f ys) W) ∧ EntOk P f x) ∧ AllOk P l

theorem tabOk_of : ∀ {l : List (FuncId × Ent)}, AllOk P l → TabOk P (lookT l)
  | [], _, f, x, h => by simp [lookT] at h
  | (g, y) :: l, ⟨h1, h2⟩, f, x, h => by
    simp only [lookT] at h
    split at h
    · rename_i hg; subst hg
      simp only [Option.some.injEq] at h; subst h
      exact h1
    · exact tabOk_of h2 f x h

/-- The store that holds nothing. -/
def St.empty : St := ⟨[], false, []⟩

theorem rel_empty (W : World) : Rel W W.heap.size .empty (fun _ _ => ⟨0, 0, 0⟩) W := by
  have hget : ∀ lv ix, St.empty.get lv ix = none := by
    intro lv ix
    unfold St.empty St.get
    split <;> simp [vis]
  refine ⟨.refl _ _, Nat.le_refl _, ?_, ?_, ?_, ?_⟩ <;> intro lv ix
  · intro w ver es h; rw [hget] at h; simp at h
  · intro w ver es lv' ix' w' ver' es' h; rw [hget] at h; simp at h
  · intro es h; rw [hget] at h; simp at h
  · intro es lv' ix' es' h; rw [hget] at h; simp at h

/-- A function that is called from without: it gives what was said, and writes nothing that was there. -/
theorem run_ok (hm : P.follows .mixedOrders = true) {T : Tab} (hT : TabOk P T) {f : FuncId} {args : List AV} {v : AV} {st' : St} (h : S T f args .empty = some (v, st')) {xs : List Value}
    (hx : ∀ C : Cx, RL C args xs) : Calls P f xs.toArray W fun e W' => ∃ x, e = .returned x ∧ Below W.heap.size W W' ∧ ∃ C : Cx, R C v x :=
  ((S_ok hm hT).calls h (rel_empty W) (hx _)).mono fun _ _ ⟨x, _, he, g, hv⟩ => ⟨x, he, g.rel.below, _, hv⟩

/-- A law that gives true, returns true, and writes nothing that was there. -/
theorem walk_of (hm : P.follows .mixedOrders = true) {T : Tab} (hT : TabOk P T) {f : FuncId} {args : List AV} (h : ∃ st', S T f args .empty = some (.bool true, st')) {xs : List Value} (hx : ∀ C : Cx, RL C args xs) :
    Calls P f xs.toArray W fun e W' => e = .returned (.bool true) ∧ Below W.heap.size W W' := by
  obtain ⟨st', h⟩ := h
  refine (run_ok hm hT h hx).mono ?_
  rintro e' W' ⟨x, rfl, hb, C, hv⟩
  exact ⟨by rw [getBool hv], hb⟩

def isTrue : Option (AV × St) → Bool
  | some (.bool true, _) => true
  | _ => false

/-- A closed run that gives true. -/
theorem closed_true {T : Tab} {f : FuncId} {args : List AV} {st : St} (n : Nat) (h : isTrue (callN T n f args st) = true) : ∃ st', S T f args st = some (.bool true, st') := by
  unfold isTrue at h
  split at h
  · rename_i st' hq; exact ⟨st', S_of_run n hq⟩
  · simp at h

theorem str_eq (s : ByteArray) : Value.string s = .string ⟨s.data.toList.toArray⟩ := by simp

end
end Go.QAbs
