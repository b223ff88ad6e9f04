/- A slice that a region of its own made becomes the caller's. No condition. -/
import Derived.Test.YtmkjnglbfgajbaaQR3
namespace Go.QAbs
set_option linter.unusedVariables false
set_option linter.unusedSimpArgs false
open Go.RowKit (Below)
set_option linter.unusedVariables false

section
variable {P : Program} {O : Orc} {W0 : World} {B0 : Nat} {st s : St} {ρ ρ2 : Rho} {W W2 : World}

theorem imm_R : ∀ {n : Nat} {C D : Cx} {v : AV} {x : Value}, imm n v = true → R C v x → (∀ b o u, C.im b o u → D.im b o u) → R D v x
  | 0, C, D, v, x, h, _, _ => by simp [imm] at h
  | n + 1, C, D, v, x, h, hR, hm => by
    have hp : C.pure.le D.pure := ⟨hm, fun _ _ _ _ _ _ q => q, fun _ _ _ _ _ _ q => q, fun _ _ _ q => q⟩
    cases hR with
    | any => exact .any _
    | undef => exact .undef
    | bool b => exact .bool b
    | int k n => exact .int k n
    | str s => exact .str s
    | nilptr => exact .nilptr
    | lptr h1 h2 => exact .lptr (h1.mono hp) (h2.mono hm)
    | nils a => simp [imm] at h
    | lit0 a c => exact .lit0 a c
    | lit xs h1 h2 h3 => exact .lit xs (fun i e he => (h1 i e he).mono hp) (fun i hi => ⟨(h2 i hi).1, (h2 i hi).2.mono hm⟩) h3
    | nilmap => exact .nilmap
    | nilfunc => exact .nilfunc
    | niliface => exact .niliface
    | agg hl h1 =>
      simp only [imm, List.all_eq_true] at h
      exact .agg hl fun i v x hv hx => imm_R (h v (List.mem_of_getElem? hv)) (h1 i v x hv hx) hm
    | tup hl h1 =>
      simp only [imm, List.all_eq_true] at h
      exact .tup hl fun i v x hv hx => imm_R (h v (List.mem_of_getElem? hv)) (h1 i v x hv hx) hm
    | ptr _ => simp [imm] at h
    | ref _ => simp [imm] at h
    | map _ => simp [imm] at h
    | func _ _ _ _ _ => simp [imm] at h
    | iface _ _ => simp [imm] at h

theorem adopt_ok (hr : Rel W0 B0 s ρ2 W2) (he : Ev st.push ρ W s ρ2 W2) {A' : List (Bool × List Blk)} {r : Bool × List Blk} (hp : pop s.A = some (A', r)) (hro : r.1 = false) {ix w ver b n : Nat} {es0 : List AV}
    (hL : s.L[ix]? = some (.arr w ver es0)) (hbn : b + n ≤ es0.length) (him : ((es0.drop b).take n).all (imm 6) = true) {x : Value} (hx : (cx s ρ2 W2 s.A.length).ref s.A.length ix ver b n x) :
    ∃ ρ4, Goes W0 B0 st ρ W ⟨A', r.1, r.2 ++ [.arr w 0 ((es0.drop b).take n)]⟩ ρ4 W2 ∧ (∀ m, m ≤ st.A.length → (cx s ρ2 W2 m).le (cx ⟨A', r.1, r.2 ++ [.arr w 0 ((es0.drop b).take n)]⟩ ρ4 W2 m)) ∧
      R (cx ⟨A', r.1, r.2 ++ [.arr w 0 ((es0.drop b).take n)]⟩ ρ4 W2 A'.length) (.ref A'.length r.2.length 0 0 n) x := by
  have hA := pop_eq hp
  have hlen : A'.length = st.A.length := by have := he.len; rw [hA] at this; simp [St.push] at this; exact this
  have hsA : s.A.length = A'.length + 1 := by rw [hA]; simp
  have hst2 : s = ⟨A' ++ [(r.1, r.2)], s.ro, s.L⟩ := by rw [← hA]
  have hget0 : s.get s.A.length ix = some (.arr w ver es0) := by simp [St.get, hL, vis]
  have hold : ∀ lv' ix', lv' ≤ A'.length → s.get lv' ix' = St.get ⟨A', r.1, r.2⟩ lv' ix' := by
    intro lv' ix' h
    rw [hst2, St.get_push, if_neg (by omega)]
  generalize hes : (es0.drop b).take n = es at *
  have hesl : es.length = n := by rw [← hes]; simp; omega
  let l0 := ρ2 s.A.length ix
  let ρ4 := upd ρ2 A'.length r.2.length ⟨l0.b, l0.o + b * w, l0.c - b⟩
  have hg0 : St.get ⟨A', r.1, r.2 ++ [.arr w 0 es]⟩ A'.length r.2.length = some (.arr w 0 es) := by simp [St.get, vis]
  have hg1 : ∀ lv' ix', ¬ (lv' = A'.length ∧ ix' = r.2.length) → St.get ⟨A', r.1, r.2 ++ [.arr w 0 es]⟩ lv' ix' = St.get ⟨A', r.1, r.2⟩ lv' ix' := by
    intro lv' ix' hne
    simp only [St.get]
    split
    · rename_i h1
      by_cases h3 : ix' < r.2.length
      · rw [List.getElem?_append_left h3]
      · have : ¬ ix' = r.2.length := fun he => hne ⟨h1, he⟩
        rw [List.getElem?_eq_none (by simp; omega), List.getElem?_eq_none (by omega)]
    · rfl
  have hnone : St.get ⟨A', r.1, r.2⟩ A'.length r.2.length = none := by simp [St.get, vis]
  have hr4 : ∀ lv' ix', ¬ (lv' = A'.length ∧ ix' = r.2.length) → ρ4 lv' ix' = ρ2 lv' ix' := fun lv' ix' h => upd_ne _ _ _ _ h
  have hr0 : ρ4 A'.length r.2.length = ⟨l0.b, l0.o + b * w, l0.c - b⟩ := upd_same _ _ _ _
  have aok := hr.arr _ _ _ _ _ hget0
  have hclen := aok.len
  -- what t shows, s shows
  have hback : ∀ lv' ix' blk, St.get ⟨A', r.1, r.2 ++ [.arr w 0 es]⟩ lv' ix' = some blk → ¬ (lv' = A'.length ∧ ix' = r.2.length) → s.get lv' ix' = some blk ∧ lv' ≤ A'.length := by
    intro lv' ix' blk h hne
    have hl := St.get_le h
    rw [hg1 _ _ hne, ← hold _ _ hl] at h
    exact ⟨h, hl⟩
  have hfwd : ∀ lv' ix', lv' ≤ A'.length → (s.get lv' ix').isSome = true → ¬ (lv' = A'.length ∧ ix' = r.2.length) := by
    rintro lv' ix' h1 h2 ⟨rfl, rfl⟩
    rw [hold _ _ h1, hnone] at h2; simp at h2
  have heq : ∀ lv' ix', lv' ≤ A'.length → ¬ (lv' = A'.length ∧ ix' = r.2.length) → St.get ⟨A', r.1, r.2 ++ [.arr w 0 es]⟩ lv' ix' = s.get lv' ix' := by
    intro lv' ix' h1 h2
    rw [hg1 _ _ h2, hold _ _ h1]
  have hmul : ∀ j, j < (l0.c - b) * w → b * w + j < l0.c * w := by
    intro j hj
    have : (l0.c - b) * w + b * w = l0.c * w := by rw [← Nat.add_mul]; congr 1; show (ρ2 s.A.length ix).c - b + b = (ρ2 s.A.length ix).c; omega
    omega
  have hle : ∀ m, m ≤ A'.length → (cx s ρ2 W2 m).le (cx ⟨A', r.1, r.2 ++ [.arr w 0 es]⟩ ρ4 W2 m) := by
    intro m hm
    refine ⟨?_, ?_, ?_, ?_⟩
    · rintro b' o' v ⟨h1, h2⟩
      refine ⟨h1, fun hmut => h2 ?_⟩
      obtain ⟨lv', ix', w', ver', es', hg, hr1, hr2, hr3⟩ := hmut
      by_cases hne : lv' = A'.length ∧ ix' = r.2.length
      · obtain ⟨rfl, rfl⟩ := hne
        rw [hg0] at hg
        simp only [Option.some.injEq, Blk.arr.injEq] at hg
        obtain ⟨rfl, _, _⟩ := hg
        rw [hr0] at hr1 hr2 hr3
        simp only at hr1 hr2 hr3
        refine ⟨s.A.length, ix, w, ver, es0, hget0, hr1, by show l0.o ≤ o'; omega, ?_⟩
        have := hmul (o' - (l0.o + b * w)) (by omega)
        show o' < l0.o + l0.c * w
        omega
      · rw [hr4 _ _ hne] at hr1 hr2 hr3
        exact ⟨lv', ix', w', ver', es', (hback _ _ _ hg hne).1, hr1, hr2, hr3⟩
    · rintro lv' ix' ver' i o' v ⟨h1, h2, h3, h4, h5⟩
      have hne := hfwd lv' ix' (by omega) h2
      have e := heq lv' ix' (by omega) hne
      exact ⟨h1, by rw [e]; exact h2, h3, fun w u es hg => h4 w u es (by rw [← e]; exact hg), fun w es hg => by rw [hr4 _ _ hne]; exact h5 w es (by rw [← e]; exact hg)⟩
    · rintro lv' ix' ver' i o' v ⟨h1, h2, h3, a, c, h4, h5⟩
      have hne := hfwd lv' ix' (by omega) h2
      have e := heq lv' ix' (by omega) hne
      exact ⟨h1, by rw [e]; exact h2, fun w u es hg => h3 w u es (by rw [← e]; exact hg), a, c, h4, fun w es hg => by rw [hr4 _ _ hne]; exact h5 w es (by rw [← e]; exact hg)⟩
    · rintro lv' ix' v ⟨h1, h2, r', h3, h5⟩
      have hne := hfwd lv' ix' (by omega) h2
      have e := heq lv' ix' (by omega) hne
      exact ⟨h1, by rw [e]; exact h2, r', h3, fun es hg => by rw [hr4 _ _ hne]; exact h5 es (by rw [← e]; exact hg)⟩
  have hrel : Rel W0 B0 ⟨A', r.1, r.2 ++ [.arr w 0 es]⟩ ρ4 W2 := by
    have selfNe : ∀ lv' ix', lv' ≤ A'.length → ¬ (lv' = s.A.length ∧ ix' = ix) := by rintro lv' ix' h ⟨rfl, _⟩; omega
    refine ⟨hr.below, hr.b0, ?_, ?_, ?_, ?_⟩
    · intro lv' ix' w' ver' es' hg
      by_cases hne : lv' = A'.length ∧ ix' = r.2.length
      · obtain ⟨rfl, rfl⟩ := hne
        rw [hg0] at hg
        simp only [Option.some.injEq, Blk.arr.injEq] at hg
        obtain ⟨rfl, _, rfl⟩ := hg
        rw [hr0]
        refine ⟨by show es.length ≤ l0.c - b; have : es0.length ≤ l0.c := hclen; omega, fun i e hi => ?_, fun j hj => ?_⟩
        · have hi' := lt_of_get hi
          rw [← hes, List.getElem?_take] at hi
          split at hi
          · rw [List.getElem?_drop] at hi
            obtain ⟨y, q1, q2, q3⟩ := aok.el _ _ hi
            have himm : imm 6 e = true := List.all_eq_true.1 him e (by rw [← hes]; rw [← hes] at hi'; exact List.mem_of_getElem? (i := i) (by rw [List.getElem?_take, if_pos (by omega), List.getElem?_drop]; exact hi))
            refine ⟨y, imm_R himm q1 ?_, q2, ?_⟩
            · exact (hle A'.length (Nat.le_refl _)).im
            · show Lies _ l0.b (l0.o + b * w + i * w) y
              have e1 : l0.o + b * w + i * w = l0.o + (b + i) * w := by rw [Nat.add_mul]; omega
              rw [e1]; exact q3
          · simp at hi
        · have := aok.mem (b * w + j) (hmul j hj)
          have e1 : (ρ2 s.A.length ix).o + (b * w + j) = l0.o + b * w + j := by show l0.o + (b * w + j) = _; omega
          rw [e1] at this; exact this
      · obtain ⟨h1, h2⟩ := hback _ _ _ hg hne
        obtain ⟨a1, a2, a3⟩ := hr.arr _ _ _ _ _ h1
        rw [hr4 _ _ hne]
        refine ⟨a1, fun i e he => ?_, a3⟩
        obtain ⟨y, q1, q2⟩ := a2 i e he
        exact ⟨y, q1.mono (hle lv' h2), q2⟩
    · intro lv1 ix1 w1 ver1 es1 lv2 ix2 w2 ver2 es2 hg1' hg2' hne12 j1 j2 hj1 hj2
      by_cases hn1 : lv1 = A'.length ∧ ix1 = r.2.length
      · obtain ⟨rfl, rfl⟩ := hn1
        have hn2 : ¬ (lv2 = A'.length ∧ ix2 = r.2.length) := fun q => hne12 ⟨q.1.symm, q.2.symm⟩
        obtain ⟨k1, k2⟩ := hback _ _ _ hg2' hn2
        rw [hg0] at hg1'
        simp only [Option.some.injEq, Blk.arr.injEq] at hg1'
        obtain ⟨rfl, _, _⟩ := hg1'
        rw [hr0] at hj1
        rw [hr0, hr4 _ _ hn2]
        rw [hr4 _ _ hn2] at hj2
        have := hr.sep _ _ _ _ _ _ _ _ _ _ hget0 k1 (fun q => selfNe _ _ k2 ⟨q.1.symm, q.2.symm⟩) (b * w + j1) j2 (hmul j1 hj1) hj2
        rintro ⟨p1, p2⟩
        exact this ⟨p1, by simp only at p2; show l0.o + (b * w + j1) = _; omega⟩
      · obtain ⟨k1, k2⟩ := hback _ _ _ hg1' hn1
        by_cases hn2 : lv2 = A'.length ∧ ix2 = r.2.length
        · obtain ⟨rfl, rfl⟩ := hn2
          rw [hg0] at hg2'
          simp only [Option.some.injEq, Blk.arr.injEq] at hg2'
          obtain ⟨rfl, _, _⟩ := hg2'
          rw [hr0] at hj2
          rw [hr0, hr4 _ _ hn1]
          rw [hr4 _ _ hn1] at hj1
          have := hr.sep _ _ _ _ _ _ _ _ _ _ k1 hget0 (selfNe _ _ k2) j1 (b * w + j2) hj1 (hmul j2 hj2)
          rintro ⟨p1, p2⟩
          exact this ⟨p1, by simp only at p2; show _ = l0.o + (b * w + j2); omega⟩
        · obtain ⟨m1, m2⟩ := hback _ _ _ hg2' hn2
          rw [hr4 _ _ hn1] at hj1
          rw [hr4 _ _ hn2] at hj2
          rw [hr4 _ _ hn1, hr4 _ _ hn2]
          exact hr.sep _ _ _ _ _ _ _ _ _ _ k1 m1 hne12 j1 j2 hj1 hj2
    · intro lv' ix' es' hg
      have hne : ¬ (lv' = A'.length ∧ ix' = r.2.length) := by rintro ⟨rfl, rfl⟩; rw [hg0] at hg; simp at hg
      obtain ⟨h1, h2⟩ := hback _ _ _ hg hne
      obtain ⟨m1, en, clock, m2, m3, m4⟩ := hr.map _ _ _ h1
      rw [hr4 _ _ hne]
      refine ⟨m1, en, clock, m2, m3, fun i k v hk => ?_⟩
      obtain ⟨n1, x, n2, n3, n4⟩ := m4 i k v hk
      exact ⟨n1, x, n2, n3.mono (hle _ h2), n4.mono (hle _ h2)⟩
    · intro lv1 ix1 es1 lv2 ix2 es2 hg1' hg2' hne12
      have hn1 : ¬ (lv1 = A'.length ∧ ix1 = r.2.length) := by rintro ⟨rfl, rfl⟩; rw [hg0] at hg1'; simp at hg1'
      have hn2 : ¬ (lv2 = A'.length ∧ ix2 = r.2.length) := by rintro ⟨rfl, rfl⟩; rw [hg0] at hg2'; simp at hg2'
      rw [hr4 _ _ hn1, hr4 _ _ hn2]
      exact hr.msep _ _ _ _ _ _ (hback _ _ _ hg1' hn1).1 (hback _ _ _ hg2' hn2).1 hne12
  have hA0 : st.push.A[st.A.length]? = some (st.ro, st.L) := by simp [St.push]
  obtain ⟨r', h1, h2, h3⟩ := he.old _ _ hA0
  have hr' : r' = r := by
    rw [hA, ← hlen] at h1
    simpa using h1.symm
  subst hr'
  refine ⟨ρ4, ⟨hrel, hlen, ?_, ?_, h2, fun hro' => ?_⟩, fun m hm => hle m (by omega), ?_⟩
  · intro m hm
    exact ((Sub.push st).cx hm).trans ((he.le m (by simp [St.push]; omega)).trans (hle m (by omega)))
  · intro lv x hx
    have hlt := lt_of_get hx
    have hx' : st.push.A[lv]? = some x := by simp only [St.push]; rw [List.getElem?_append_left hlt]; exact hx
    obtain ⟨y, k1, k2, k3⟩ := he.old _ _ hx'
    refine ⟨y, ?_, k2, k3⟩
    rw [hA, List.getElem?_append_left (by omega)] at k1
    exact k1
  · have h2' : r'.1 = st.ro := h2
    rw [hro] at h2'; rw [← h2'] at hro'; simp at hro'
  · obtain ⟨p1, p2, p3, a, c, rfl, p4⟩ := hx
    obtain ⟨q1, q2, q3⟩ := p4 w es0 hget0
    refine .ref ⟨Nat.le_refl _, by rw [hg0]; rfl, fun w' u es' hg => Nat.zero_le _, a, c, rfl, fun w' es' hg => ?_⟩
    rw [hg0] at hg
    simp only [Option.some.injEq, Blk.arr.injEq] at hg
    obtain ⟨rfl, _, rfl⟩ := hg
    rw [hr0]
    refine ⟨by omega, by show c + 0 = l0.c - b; have : c + b = l0.c := q2; omega, fun hlt => ?_⟩
    have := q3 (by have : c + b = l0.c := q2; have : 0 < l0.c - b := hlt; show b < l0.c; omega)
    rw [this]
    simp only [Option.some.injEq]
    congr 1
    show l0.o + b * w = l0.o + b * w + 0 * w
    omega

theorem adopt1_ok (hr : Rel W0 B0 s ρ2 W2) (he : Ev st.push ρ W s ρ2 W2) {v : AV} {r : AV × St} (h : adopt1 s v = some r) {x : Value} (hx : R (cx s ρ2 W2 s.A.length) v x) :
    ∃ ρ4, Goes W0 B0 st ρ W r.2 ρ4 W2 ∧ (∀ m, m ≤ st.A.length → (cx s ρ2 W2 m).le (cx r.2 ρ4 W2 m)) ∧ R (cx r.2 ρ4 W2 r.2.A.length) r.1 x := by
  cases v with
  | ref lv ix ver b n =>
    simp only [adopt1] at h
    split at h
    · rename_i hl
      subst hl
      unfold adoptR at h
      split at h
      · rename_i w ver' es hL
        split at h
        · rename_i hv
          subst hv
          simp only [Option.bind_eq_some_iff] at h
          obtain ⟨⟨A', rr⟩, hp, h⟩ := h
          unfold adoptB at h
          split at h
          · simp at h
          · rename_i hc
            simp only [Option.some.injEq] at h; subst h
            simp only [not_or, Bool.not_eq_true, Bool.not_eq_false] at hc
            cases hx with
            | ref hx => exact adopt_ok hr he hp hc.1 hL (by omega) hc.2.2 hx
        · simp at h
      · simp at h
    · simp at h
  | nils =>
    simp only [adopt1, leaveK, Option.bind_eq_some_iff, popK, Option.some.injEq] at h
    obtain ⟨⟨A', rr⟩, hp, rfl⟩ := h
    obtain ⟨g, hle⟩ := leave_ok hr he hp
    have hA := pop_eq hp
    have hlen : A'.length = st.A.length := g.ev.len
    refine ⟨ρ2, g, fun m hm => ?_, ?_⟩
    · have hsub : Sub st.A.length s ⟨A', rr.1, rr.2⟩ := by
        refine ⟨fun lv ix hlv => ?_, fun lv ix b hg => by have := St.get_le hg; simp only [hlen] at this; exact this⟩
        have hst2 : s = ⟨A' ++ [(rr.1, rr.2)], s.ro, s.L⟩ := by rw [← hA]
        rw [hst2, St.get_push, if_neg (by omega)]
      exact hsub.cx hm
    · cases hx with
      | nils a => exact .nils a
  | _ => simp [adopt1] at h

theorem adoptK_ok (hr : Rel W0 B0 s ρ2 W2) (he : Ev st.push ρ W s ρ2 W2) {v : AV} {r : AV × St} (h : adoptK (v, s) = some r) {x : Value} (hx : R (cx s ρ2 W2 s.A.length) v x) :
    ∃ ρ4, Goes W0 B0 st ρ W r.2 ρ4 W2 ∧ R (cx r.2 ρ4 W2 r.2.A.length) r.1 x := by
  unfold adoptK at h
  split at h
  · rename_i v0 vs hv
    simp only at hv
    subst hv
    split at h
    · rename_i hc
      simp only [Option.bind_eq_some_iff, tup1, Option.some.injEq] at h
      obtain ⟨q, hq, rfl⟩ := h
      cases hx with
      | @tup _ _ xs hl h1 =>
        obtain ⟨y, ys, rfl, q1, q2⟩ := RL.cons_inv (C := cx s ρ2 W2 s.A.length) (v := v0) (vs := vs) (ys := xs) ⟨hl, h1⟩
        obtain ⟨ρ4, g, hle, hv⟩ := adopt1_ok hr he hq q1
        refine ⟨ρ4, g, R.tup' (.cons hv ⟨q2.1, fun i u z hu hz => ?_⟩)⟩
        have himm := List.all_eq_true.1 hc u (List.mem_of_getElem? hu)
        exact imm_R himm (q2.2 i u z hu hz) (hle 0 (Nat.zero_le _)).im
    · simp at h
  · obtain ⟨ρ4, g, _, hv⟩ := adopt1_ok hr he h hx
    exact ⟨ρ4, g, hv⟩

end
end Go.QAbs
