/- Sealing; entering and leaving a region. No condition. -/
import Derived.Test.YtmkjnglbfgajbaaQH
namespace Go.QAbs
set_option linter.unusedVariables false
set_option linter.unusedSimpArgs false
open Go.RowKit (Below)

/-- What may be spoken of below level b. -/
def Dc (b : Nat) (st : St) (ρ : Rho) (W : World) : Cx :=
  match b with
  | 0 => (cx st ρ W 0).pure
  | m + 1 => cx st ρ W m

section
variable {W0 : World} {B0 : Nat} {st st' : St} {ρ ρ' : Rho} {W W' : World}

theorem Ev.dle (h : Ev st ρ W st' ρ' W') {b : Nat} (hb : b ≤ st.A.length + 1) : (Dc b st ρ W).le (Dc b st' ρ' W') := by
  cases b with
  | zero => exact (h.le 0 (Nat.zero_le _)).pure
  | succ m => exact h.le m (by omega)

theorem Dc_im (b : Nat) (st : St) (ρ : Rho) (W : World) : (Dc b st ρ W).im = (cx st ρ W 0).im := by cases b <;> rfl

theorem lit_ok {C : Cx} {es : List AV} {xs : List Value} {b o w c : Nat} (hx : RL C.pure es xs) (hl : ∀ i x, xs[i]? = some x → x.cells.size = w ∧ Lies C.im b (o + i * w) x) (hc : es.length ≤ c)
    {a : Option Addr} (ha : 0 < es.length → a = some ⟨b, o, none⟩) : R C (.lit es) (.slice a es.length c) := by
  cases es with
  | nil => exact .lit0 a c
  | cons e es =>
    have ha := ha (by simp)
    subst ha
    refine .lit (w := w) (fun i => xs.getD i Go.undef) (fun i e he => ?_) (fun i hi => ?_) hc
    · obtain ⟨x, h1, h2⟩ := hx.get he
      simp only [List.getD, h1, Option.getD_some]; exact h2
    · have hlt : i < xs.length := by rw [← hx.1]; exact hi
      simp only [List.getD, List.getElem?_eq_getElem hlt, Option.getD_some]
      exact hl i _ (List.getElem?_eq_getElem hlt)

theorem mapSt_ok {f : St → AV → Option (AV × St)} {b : Nat}
    (hf : ∀ (st : St) (v : AV) (x : Value) (v' : AV) (st' : St), Rel W0 B0 st ρ W → b ≤ st.A.length + 1 → R (cx st ρ W st.A.length) v x → f st v = some (v', st') → Goes W0 B0 st ρ W st' ρ W ∧ R (Dc b st' ρ W) v' x) :
    ∀ {vs : List AV} {xs : List Value} {st st' : St} {vs' : List AV}, Rel W0 B0 st ρ W → b ≤ st.A.length + 1 → RL (cx st ρ W st.A.length) vs xs → mapSt f st vs = some (vs', st') →
      Goes W0 B0 st ρ W st' ρ W ∧ RL (Dc b st' ρ W) vs' xs
  | [], xs, st, st', vs', hr, hb, hx, h => by
    simp only [mapSt, Option.some.injEq, Prod.mk.injEq] at h
    obtain ⟨rfl, rfl⟩ := h
    rw [hx.nil_inv]; exact ⟨.refl hr, .nil _⟩
  | v :: vs, xs, st, st', vs', hr, hb, hx, h => by
    obtain ⟨x, xs, rfl, h1, h2⟩ := hx.cons_inv
    simp only [mapSt, Option.bind_eq_some_iff, consK, Option.some.injEq, Prod.mk.injEq] at h
    obtain ⟨⟨v', st1⟩, e1, ⟨vs1, st2⟩, e2, e3, e4⟩ := h
    subst e3; subst e4
    obtain ⟨g1, r1⟩ := hf st v x v' st1 hr hb h1 e1
    have hle := g1.ev.le st.A.length (Nat.le_refl _)
    have hlen := g1.ev.len
    obtain ⟨g2, r2⟩ := mapSt_ok hf g1.rel (by rw [hlen]; exact hb) (by rw [hlen]; exact h2.mono hle) e2
    exact ⟨g1.trans g2, .cons (r1.mono (g2.ev.dle (by rw [hlen]; exact hb))) r2⟩

theorem sealV_ok : ∀ (n b : Nat) (st : St) (v : AV) (x : Value) (v' : AV) (st' : St), Rel W0 B0 st ρ W → b ≤ st.A.length + 1 → R (cx st ρ W st.A.length) v x → sealV n b st v = some (v', st') →
    Goes W0 B0 st ρ W st' ρ W ∧ R (Dc b st' ρ W) v' x
  | 0, _, _, _, _, _, _, _, _, _, h => by simp [sealV] at h
  | n + 1, b, st, v, x, v', st', hr, hb, hx, h => by
    have ih := fun b => sealV_ok n b
    cases hx with
    | any v => simp only [sealV, Option.some.injEq, Prod.mk.injEq] at h; obtain ⟨rfl, rfl⟩ := h; exact ⟨.refl hr, .any _⟩
    | undef => simp only [sealV, Option.some.injEq, Prod.mk.injEq] at h; obtain ⟨rfl, rfl⟩ := h; exact ⟨.refl hr, .undef⟩
    | bool b => simp only [sealV, Option.some.injEq, Prod.mk.injEq] at h; obtain ⟨rfl, rfl⟩ := h; exact ⟨.refl hr, .bool _⟩
    | int q k => simp only [sealV, Option.some.injEq, Prod.mk.injEq] at h; obtain ⟨rfl, rfl⟩ := h; exact ⟨.refl hr, .int _ _⟩
    | str s => simp only [sealV, Option.some.injEq, Prod.mk.injEq] at h; obtain ⟨rfl, rfl⟩ := h; exact ⟨.refl hr, .str _⟩
    | nilptr => simp only [sealV, Option.some.injEq, Prod.mk.injEq] at h; obtain ⟨rfl, rfl⟩ := h; exact ⟨.refl hr, .nilptr⟩
    | ptr hp =>
      simp only [sealV] at h
      split at h
      · rename_i hlt
        simp only [Option.some.injEq, Prod.mk.injEq] at h; obtain ⟨rfl, rfl⟩ := h
        refine ⟨.refl hr, ?_⟩
        cases b with
        | zero => omega
        | succ m => exact .ptr ⟨by omega, hp.2⟩
      · simp at h
    | lptr he hl => simp only [sealV, Option.some.injEq, Prod.mk.injEq] at h; obtain ⟨rfl, rfl⟩ := h; refine ⟨.refl hr, ?_⟩; cases b with
        | zero => exact .lptr he hl
        | succ m => exact .lptr he hl
    | nils a => simp only [sealV, Option.some.injEq, Prod.mk.injEq] at h; obtain ⟨rfl, rfl⟩ := h; exact ⟨.refl hr, .lit0 _ _⟩
    | lit0 a c => simp only [sealV, Option.some.injEq, Prod.mk.injEq] at h; obtain ⟨rfl, rfl⟩ := h; exact ⟨.refl hr, .lit0 _ _⟩
    | lit xs h1 h2 h3 => simp only [sealV, Option.some.injEq, Prod.mk.injEq] at h; obtain ⟨rfl, rfl⟩ := h; refine ⟨.refl hr, ?_⟩; cases b with
        | zero => exact .lit xs h1 h2 h3
        | succ m => exact .lit xs h1 h2 h3
    | nilmap => simp only [sealV, Option.some.injEq, Prod.mk.injEq] at h; obtain ⟨rfl, rfl⟩ := h; exact ⟨.refl hr, .nilmap⟩
    | map hp =>
      simp only [sealV] at h
      split at h
      · rename_i hlt
        simp only [Option.some.injEq, Prod.mk.injEq] at h; obtain ⟨rfl, rfl⟩ := h
        refine ⟨.refl hr, ?_⟩
        cases b with
        | zero => omega
        | succ m => exact .map ⟨by omega, hp.2⟩
      · simp at h
    | nilfunc => simp only [sealV, Option.some.injEq, Prod.mk.injEq] at h; obtain ⟨rfl, rfl⟩ := h; exact ⟨.refl hr, .nilfunc⟩
    | niliface => simp only [sealV, Option.some.injEq, Prod.mk.injEq] at h; obtain ⟨rfl, rfl⟩ := h; exact ⟨.refl hr, .niliface⟩
    | iface t hi =>
      simp only [sealV, Option.bind_eq_some_iff, ifaceK, Option.some.injEq, Prod.mk.injEq] at h
      obtain ⟨⟨w, st1⟩, e1, e2, e3⟩ := h
      subst e2; subst e3
      obtain ⟨g1, r1⟩ := ih b st _ _ _ _ hr hb hi e1
      exact ⟨g1, .iface t r1⟩
    | agg hl hi =>
      simp only [sealV, Option.bind_eq_some_iff, aggK, Option.some.injEq, Prod.mk.injEq] at h
      obtain ⟨⟨w, st1⟩, e1, e2, e3⟩ := h
      subst e2; subst e3
      obtain ⟨g1, r1⟩ := mapSt_ok (fun st v x v' st' => ih b st v x v' st') hr hb ⟨hl, hi⟩ e1
      exact ⟨g1, .agg' r1⟩
    | tup hl hi =>
      simp only [sealV, Option.bind_eq_some_iff, tupK, Option.some.injEq, Prod.mk.injEq] at h
      obtain ⟨⟨w, st1⟩, e1, e2, e3⟩ := h
      subst e2; subst e3
      obtain ⟨g1, r1⟩ := mapSt_ok (fun st v x v' st' => ih b st v x v' st') hr hb ⟨hl, hi⟩ e1
      exact ⟨g1, .tup' r1⟩
    | @func _ fn fs cs xs ys hf hc rf rc =>
      simp only [sealV, Option.bind_eq_some_iff, Option.some.injEq, Prod.mk.injEq] at h
      obtain ⟨⟨w, st1⟩, e1, ⟨u, st2⟩, e2, e3, e4⟩ := h
      subst e3; subst e4
      obtain ⟨g1, r1⟩ := mapSt_ok (fun st v x v' st' => ih b st v x v' st') hr hb ⟨hf, rf⟩ e1
      have hlen := g1.ev.len
      have rc' : RL (cx st1 ρ W st1.A.length) cs ys := by rw [hlen]; exact RL.mono ⟨hc, rc⟩ (g1.ev.le _ (Nat.le_refl _))
      obtain ⟨g2, r2⟩ := mapSt_ok (fun st v x v' st' => ih b st v x v' st') g1.rel (by rw [hlen]; exact hb) rc' e2
      have r1' := r1.mono (g2.ev.dle (by rw [hlen]; exact hb))
      exact ⟨g1.trans g2, .func fn r1'.1 r2.1 r1'.2 r2.2⟩
    | @ref _ lv ix ver s m _ hp =>
      simp only [sealV] at h
      split at h
      · rename_i hlt
        simp only [Option.some.injEq, Prod.mk.injEq] at h; obtain ⟨rfl, rfl⟩ := h
        refine ⟨.refl hr, ?_⟩
        cases b with
        | zero => omega
        | succ m => exact .ref ⟨by omega, hp.2⟩
      · split at h
        · rename_i hlv
          obtain ⟨hlv, hro⟩ := hlv
          simp only [Option.bind_eq_some_iff] at h
          obtain ⟨es2, hes, ⟨es', st2⟩, hm, hk⟩ := h
          simp only [litK, Option.some.injEq, Prod.mk.injEq] at hk
          obtain ⟨rfl, rfl⟩ := hk
          subst hlv
          cases hL : st.L[ix]? with
          | none => rw [hL] at hes; simp [refB] at hes
          | some blk =>
            rw [hL] at hes
            cases blk with
            | map _ => simp [refB] at hes
            | dead => simp [refB] at hes
            | hole _ => simp [refB] at hes
            | arr w ver' es =>
              simp only [refB] at hes
              split at hes
              · rename_i hc
                obtain ⟨rfl, hsm⟩ := hc
                simp only [Option.some.injEq] at hes; subst hes
                have hget : st.get st.A.length ix = some (.arr w ver es) := by simp [St.get, hL, vis]
                obtain ⟨_, _, _, a, c, rfl, hfull⟩ := hp
                obtain ⟨q1, q2, q3⟩ := hfull w es hget
                have aok := hr.arr _ _ _ _ _ hget
                obtain ⟨xs, hxs, hlies⟩ := aok.vals
                have g1 := kill_blk hr hro hL
                have hxs2 := (hxs.drop s).take m
                obtain ⟨g2, r2⟩ := mapSt_ok (fun st v x v' st' => ih 0 st v x v' st') g1.rel (by omega) (hxs2.mono (g1.ev.le _ (Nat.le_refl _))) hm
                refine ⟨g1.trans g2, ?_⟩
                have hnum : es'.length = m := by rw [r2.1]; simp [← hxs.1]; omega
                have him : ∀ i x, ((xs.drop s).take m)[i]? = some x → x.cells.size = w ∧ Lies (Dc b st2 ρ W).im (ρ st.A.length ix).b ((ρ st.A.length ix).o + s * w + i * w) x := by
                  intro i x hx
                  have hi := lt_of_get hx
                  rw [List.getElem?_take] at hx
                  split at hx
                  · rw [List.getElem?_drop] at hx
                    obtain ⟨l1, l2⟩ := hlies _ _ hx
                    refine ⟨l1, fun j v hv => ?_⟩
                    have hj := lt_of_getA hv
                    have hc1 := l2 j v hv
                    rw [Dc_im]
                    have hsi := lt_of_get hx
                    rw [← hxs.1] at hsi
                    have hle1 := aok.len
                    have hmul : (s + i + 1) * w ≤ (ρ st.A.length ix).c * w := Nat.mul_le_mul_right w (by omega)
                    rw [Nat.add_mul, Nat.one_mul] at hmul
                    have e1 : (ρ st.A.length ix).o + s * w + i * w + j = (ρ st.A.length ix).o + (s + i) * w + j := by rw [Nat.add_mul]; omega
                    rw [e1]
                    refine (g2.ev.le 0 (Nat.zero_le _)).im _ _ _ ⟨hc1, ?_⟩
                    rintro ⟨lv', ix', w', ver', es', hg', hr'⟩
                    have sh := Sh.of_kill hro hL
                    by_cases hid : lv' = st.A.length ∧ ix' = ix
                    · rw [hid.1, hid.2, sh.get0] at hg'; simp at hg'
                    · rw [sh.get lv' ix' hid] at hg'
                      have := hr.apart hget hg' (b := (ρ st.A.length ix).b) (o := (ρ st.A.length ix).o + (s + i) * w + j) ⟨rfl, by omega, by omega⟩ hr'
                      exact hid ⟨this.1.symm, this.2.symm⟩
                  · simp at hx
                have hpure : RL (Dc b st2 ρ W).pure es' ((xs.drop s).take m) := by
                  refine r2.mono ?_
                  refine ⟨?_, fun _ _ _ _ _ _ h => h.elim, fun _ _ _ _ _ _ h => h.elim, fun _ _ _ h => h.elim⟩
                  intro b' o v hv
                  show (Dc b st2 ρ W).im _ _ _
                  rw [Dc_im]; exact hv
                have := lit_ok (C := Dc b st2 ρ W) (c := c) hpure him (by have := aok.len; omega) (a := a) (by intro hpos; exact q3 (by have := aok.len; omega))
                rwa [hnum] at this
              · simp at hes
        · simp at h

end
end Go.QAbs
