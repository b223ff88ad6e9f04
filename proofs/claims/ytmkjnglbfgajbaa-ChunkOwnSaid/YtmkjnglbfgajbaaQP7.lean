/- What the code does is what the resolved code says. No condition. -/
import Derived.Test.YtmkjnglbfgajbaaQP6
import Derived.LoopN
namespace Go.QAbs
set_option linter.unusedVariables false
set_option linter.unusedSimpArgs false
open Go.RowKit (Below)

def Ex.exit : Ex → Exit
  | .norm => .normal
  | .ex id => .exit id
  | .ret => .ret

section
variable {P : Program} {O : Orc} {W0 : World} {B0 : Nat} {st st' : St} {ρ : Rho} {W : World} {e : Env} {a : Act} {nt : Nat}

/-- What is said of the end of a piece of code. -/
def CodeEnd (W0 : World) (B0 : Nat) (st : St) (ρ : Rho) (W : World) (a : Act) (r : Ex × Env × St) (Q : Exit → Act → World → Prop) : Prop :=
  ∀ a' ρ' W', Goes W0 B0 st ρ W r.2.2 ρ' W' → EnvR (cx r.2.2 ρ' W' r.2.2.A.length) r.2.1 a'.tmps → a'.tmps.size = a.tmps.size → a'.defers = a.defers → Q r.1.exit a' W'

theorem CodeEnd.after {st1 : St} {ρ1 : Rho} {W1 : World} {a1 : Act} {r : Ex × Env × St} {Q : Exit → Act → World → Prop} (h : CodeEnd W0 B0 st ρ W a r Q) (g : Goes W0 B0 st ρ W st1 ρ1 W1) (hs : a1.tmps.size = a.tmps.size) (hd : a1.defers = a.defers) :
    CodeEnd W0 B0 st1 ρ1 W1 a1 r Q := fun a' ρ' W' g' h1 h2 h3 => h a' ρ' W' (g.trans g') h1 (h2.trans hs) (h3.trans hd)

theorem keepEnv_look (t : Nat) : ∀ (ks : List Nat) (e : Env), look (keepEnv ks e) t = look e t ∨ look (keepEnv ks e) t = .any
  | [], e => .inr rfl
  | k :: ks, e => by
    simp only [keepEnv, look]
    split
    · rename_i h; subst h; exact .inl rfl
    · exact keepEnv_look t ks e

theorem EnvR.keep {C : Cx} {tmps : Array Value} (h : EnvR C e tmps) (ks : List Nat) : EnvR C (keepEnv ks e) tmps := by
  intro t
  rcases keepEnv_look t ks e with q | q
  · rw [q]; exact h t
  · rw [q]; exact .any _

def CodeOk (P : Program) (O : Orc) (nt : Nat) (W0 : World) (B0 : Nat) (c : Code) (F : Run) : Prop :=
  ∀ (e : Env) (st : St) (ρ : Rho) (W : World) (a : Act) (r : Ex × Env × St) (Q : Exit → Act → World → Prop), F e st = some r → Rel W0 B0 st ρ W → EnvR (cx st ρ W st.A.length) e a.tmps → nt ≤ a.tmps.size → CodeEnd W0 B0 st ρ W a r Q → c.wp P Q a W

theorem rounds_ok {c : Code} {F : Run} (hF : CodeOk P O nt W0 B0 c F) : ∀ (n : Nat) (e : Env) (st : St) (ρ : Rho) (W : World) (a : Act) (r : Ex × Env × St) (Q : Exit → Act → World → Prop), iter F n e st = some r → Rel W0 B0 st ρ W →
    EnvR (cx st ρ W st.A.length) e a.tmps → nt ≤ a.tmps.size → CodeEnd W0 B0 st ρ W a r Q → Code.rounds P c Q n a W
  | 0, e, st, ρ, W, a, r, Q, h, _, _, _, _ => by simp [iter] at h
  | n + 1, e, st, ρ, W, a, r, Q, h, hr, he, hs, hQ => by
    simp only [iter, Option.bind_eq_some_iff] at h
    obtain ⟨⟨x, e1, st1⟩, h1, h2⟩ := h
    rw [rounds_succ]
    refine hF e st ρ W a (x, e1, st1) _ h1 hr he hs ?_
    intro a' ρ' W' g he' hs' hd'
    cases x with
    | norm => exact rounds_ok hF n e1 st1 ρ' W' a' r Q h2 g.rel he' (by omega) (hQ.after g hs' hd')
    | ex id => simp only [seqK, Option.some.injEq] at h2; subst h2; exact hQ a' ρ' W' g he' hs' hd'
    | ret => simp only [seqK, Option.some.injEq] at h2; subst h2; exact hQ a' ρ' W' g he' hs' hd'

theorem exec_ok (hO : OSound P O) (hm : P.follows .mixedOrders = true) (n : Nat) : ∀ (c : Code) (hs hs' : List Hint) (pc : PC), comp P nt hs c = some (pc, hs') → CodeOk P O nt W0 B0 c (exec O (fun F => iter F n) pc) := by
  intro c
  induction c with
  | skip =>
    intro hs hs' pc hc e st ρ W a r Q h hr he hsz hQ
    cases hs <;> simp only [comp, Option.some.injEq, Prod.mk.injEq] at hc <;> obtain ⟨rfl, _⟩ := hc <;> simp only [exec, Option.some.injEq] at h <;> subst h <;> exact wp_skip (hQ a ρ W (.refl hr) he rfl rfl)
  | ret =>
    intro hs hs' pc hc e st ρ W a r Q h hr he hsz hQ
    cases hs <;> simp only [comp, Option.some.injEq, Prod.mk.injEq] at hc <;> obtain ⟨rfl, _⟩ := hc <;> simp only [exec, Option.some.injEq] at h <;> subst h <;> exact wp_ret (hQ a ρ W (.refl hr) he rfl rfl)
  | exit id =>
    intro hs hs' pc hc e st ρ W a r Q h hr he hsz hQ
    cases hs <;> simp only [comp, Option.some.injEq, Prod.mk.injEq] at hc <;> obtain ⟨rfl, _⟩ := hc <;> simp only [exec, Option.some.injEq] at h <;> subst h <;> exact wp_exit (hQ a ρ W (.refl hr) he rfl rfl)
  | seq x y ihx ihy =>
    intro hs hs' pc hc e st ρ W a r Q h hr he hsz hQ
    have hc' : (comp P nt hs x).bind (fun r => (comp P nt r.2 y).map fun q => (PC.seq r.1 q.1, q.2)) = some (pc, hs') := by cases hs <;> exact hc
    simp only [Option.bind_eq_some_iff, Option.map_eq_some_iff, Prod.mk.injEq] at hc'
    obtain ⟨⟨p1, h1⟩, hx, ⟨p2, h2⟩, hy, rfl, rfl⟩ := hc'
    simp only [exec, Option.bind_eq_some_iff] at h
    obtain ⟨⟨xx, e1, st1⟩, hx1, hx2⟩ := h
    refine wp_seq (ihx hs h1 p1 hx e st ρ W a (xx, e1, st1) _ hx1 hr he hsz ?_)
    intro a' ρ' W' g he' hs' hd'
    cases xx with
    | norm => exact ihy h1 h2 p2 hy e1 st1 ρ' W' a' r Q hx2 g.rel he' (by omega) (hQ.after g hs' hd')
    | ex id => simp only [seqK, Option.some.injEq] at hx2; subst hx2; exact hQ a' ρ' W' g he' hs' hd'
    | ret => simp only [seqK, Option.some.injEq] at hx2; subst hx2; exact hQ a' ρ' W' g he' hs' hd'
  | cond c x y ihx ihy =>
    intro hs hs' pc hc e st ρ W a r Q h hr he hsz hQ
    have hc' : (opd c).bind (fun c => (comp P nt hs x).bind fun r => (comp P nt r.2 y).map fun q => (PC.ite c r.1 q.1, q.2)) = some (pc, hs') := by cases hs <;> exact hc
    simp only [Option.bind_eq_some_iff, Option.map_eq_some_iff, Prod.mk.injEq] at hc'
    obtain ⟨co, hco, ⟨p1, h1⟩, hx, ⟨p2, h2⟩, hy, rfl, rfl⟩ := hc'
    simp only [exec] at h
    have hcv := opd_ok hco he
    unfold iteV at h
    split at h
    · rename_i hb
      rw [hb] at hcv
      exact wp_cond_true (getBool hcv) (ihx hs h1 p1 hx e st ρ W a r Q h hr he hsz hQ)
    · rename_i hb
      rw [hb] at hcv
      exact wp_cond_false (getBool hcv) (ihy h1 h2 p2 hy e st ρ W a r Q h hr he hsz hQ)
    · simp at h
  | block id x ih =>
    intro hs hs' pc hc e st ρ W a r Q h hr he hsz hQ
    have hc' : (comp P nt hs x).map (fun r => (PC.block id r.1, r.2)) = some (pc, hs') := by cases hs <;> exact hc
    simp only [Option.map_eq_some_iff, Prod.mk.injEq] at hc'
    obtain ⟨⟨p1, h1⟩, hx, rfl, rfl⟩ := hc'
    simp only [exec, Option.bind_eq_some_iff] at h
    obtain ⟨⟨xx, e1, st1⟩, hx1, hx2⟩ := h
    refine wp_block (ih hs h1 p1 hx e st ρ W a (xx, e1, st1) _ hx1 hr he hsz ?_)
    intro a' ρ' W' g he' hs' hd'
    cases xx with
    | norm => simp only [blockK, Option.some.injEq] at hx2; subst hx2; exact hQ a' ρ' W' g he' hs' hd'
    | ex id' =>
      simp only [blockK] at hx2
      simp only [Ex.exit, Exit.inBlock]
      split at hx2
      · rename_i hid
        rw [if_pos hid]
        simp only [Option.some.injEq] at hx2; subst hx2; exact hQ a' ρ' W' g he' hs' hd'
      · rename_i hid
        rw [if_neg hid]
        simp only [Option.some.injEq] at hx2; subst hx2; exact hQ a' ρ' W' g he' hs' hd'
    | ret => simp only [blockK, Option.some.injEq] at hx2; subst hx2; exact hQ a' ρ' W' g he' hs' hd'
  | loop x ih =>
    intro hs hs' pc hc e st ρ W a r Q h hr he hsz hQ
    have hc' : (comp P nt hs x).map (fun r => (PC.loop r.1, r.2)) = some (pc, hs') := by cases hs <;> exact hc
    simp only [Option.map_eq_some_iff, Prod.mk.injEq] at hc'
    obtain ⟨⟨p1, h1⟩, hx, rfl, rfl⟩ := hc'
    simp only [exec] at h
    exact wp_loop_rounds n (rounds_ok (O := O) (ih hs h1 p1 hx) n e st ρ W a r Q h hr he hsz hQ)
  | region id ops draw =>
    intro hs hs' pc hc e st ρ W a r Q h hr he hsz hQ
    cases hs with
    | nil => simp [comp] at hc
    | cons h0 hs =>
      simp only [comp, Option.map_eq_some_iff, Prod.mk.injEq] at hc
      obtain ⟨is, his, rfl, _⟩ := hc
      unfold regOf at h
      split at h
      · simp only [exec, Option.bind_eq_some_iff, regK, Option.some.injEq] at h
        obtain ⟨⟨e1, st1⟩, h1, rfl⟩ := h
        refine region_ok hO hm his h1 hr he hsz ?_
        intro a' ρ' W' g he' hs' hd'
        exact hQ a' ρ' W' g (he'.keep _) hs' hd'
      · simp only [exec, Option.bind_eq_some_iff, regK, Option.some.injEq, padH] at h
        obtain ⟨s1, hp, ⟨e1, st1⟩, h1, rfl⟩ := h
        split at hp
        · simp at hp
        · rename_i hro
          simp only [Option.some.injEq] at hp; subst hp
          have hget : ∀ lv ix, St.get { st with L := st.L ++ h0.js.map Blk.hole } lv ix = st.get lv ix := by
            intro lv ix
            simp only [St.get]
            split
            · by_cases hi : ix < st.L.length
              · rw [List.getElem?_append_left hi]
              · rw [List.getElem?_append_right (by omega), List.getElem?_eq_none (l := st.L) (by omega), List.getElem?_map]
                cases h0.js[ix - st.L.length]? <;> rfl
            · rfl
          have hs1 : Sub st.A.length st { st with L := st.L ++ h0.js.map Blk.hole } := Sub.same (s := st) (t := { st with L := st.L ++ h0.js.map Blk.hole }) hget
          have hgo : Goes W0 B0 st ρ W { st with L := st.L ++ h0.js.map Blk.hole } ρ W :=
            ⟨hs1.rel hr, rfl, fun m hm => hs1.cx hm, fun _ r h => ⟨r, h, rfl, fun _ => rfl⟩, rfl, fun h => absurd h hro⟩
          refine region_ok hO hm his h1 hgo.rel (he.mono (hs1.cx (Nat.le_refl _))) hsz ?_
          intro a' ρ' W' g he' hs' hd'
          exact hQ a' ρ' W' (hgo.trans g) (he'.keep _) hs' hd'
  | _ => intro hs hs' pc hc; cases hs <;> simp [comp] at hc

/-! ### The results -/

def resF (tmps : Array Value) : ResultVar → Sem Value
  | .tmp t => pure (tmps.getD t Go.undef)
  | .cell c t => do loadVar t (← asAddr (tmps.getD c Go.undef))

theorem results_eq (fn : Func) (tmps : Array Value) : results fn tmps = (do let vs ← fn.results.mapM (resF tmps); pure (if h : vs.size = 1 then vs[0] else .tuple vs)) := by
  unfold results
  congr 1
  first
    | done
    | (congr 1; funext rv; cases rv <;> rfl)

theorem compRes_ok {rv : ResultVar} {q : RV} (hq : compRes P rv = some q) (hr : Rel W0 B0 st ρ W) (he : EnvR (cx st ρ W st.A.length) e a.tmps) {v : AV} (hv : resV st e q = some v) :
    ∃ x, (resF a.tmps rv).run P W = .ok x W ∧ R (cx st ρ W st.A.length) v x := by
  cases rv with
  | tmp t =>
    simp only [compRes, Option.some.injEq] at hq; subst hq
    simp only [resV, Option.some.injEq] at hv; subst hv
    exact ⟨_, rfl, he t⟩
  | cell c t =>
    simp only [compRes, Option.bind_eq_some_iff, Option.map_eq_some_iff] at hq
    obtain ⟨g, hg, n, hn, rfl⟩ := hq
    simp only [resV] at hv
    obtain ⟨b, z, hb, hz, hzv⟩ := loadP_ok (P := P) hr hv (he c) hg hn
    refine ⟨z, ?_, hzv⟩
    simp [resF, hb, asAddr, hz]

end
end Go.QAbs
