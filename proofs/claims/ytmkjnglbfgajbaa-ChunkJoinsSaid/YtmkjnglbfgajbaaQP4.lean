/- Two operations that may go in either order; an operation that goes first. No condition. -/
import Derived.Test.YtmkjnglbfgajbaaQP3
namespace Go.QAbs
set_option linter.unusedVariables false
set_option linter.unusedSimpArgs false

section
variable {O : Orc} {x p : PI} {e : Env} {s s' : St} {v : AV}

theorem More.refl (s : St) : More s s := fun _ _ _ h => h

theorem own_at (hk : x.own = true) (h : evalI O e s x = some (v, s')) : s' = s ∧ ∀ t, More s.mask t.mask → evalI O e t x = some (v, t) := by
  unfold evalI at h
  rw [if_pos hk] at h
  split at h
  · rename_i hr
    simp only [Option.bind_eq_some_iff, pureK, Option.some.injEq, Prod.mk.injEq] at h
    obtain ⟨⟨v0, s0⟩, h0, h1, rfl⟩ := h
    simp only at h1; subst h1
    refine ⟨rfl, fun t m => ?_⟩
    unfold evalI
    rw [if_pos hk, if_pos hr, (reads_mono hr m h0).1]
    rfl
  · simp at h

theorem evalI_plain (hk : ¬ x.own = true) (hc : ∀ m f l, x.op ≠ .call m f l) (s : St) : evalI O e s x = evalPO e s x.op := by
  unfold evalI
  rw [if_neg hk]
  cases hx : x.op <;> first | rfl | exact absurd hx (hc _ _ _)

theorem kind_at (h : evalI O e s x = some (v, s')) :
    (x.kind = 0 → s' = s ∧ ∀ t, evalI O e t x = some (v, t)) ∧ (x.kind = 1 → s' = s ∧ ∀ t, More s t → evalI O e t x = some (v, t)) ∧
    (x.kind = 2 → s' = s ∧ ∀ t, More s.mask t.mask → evalI O e t x = some (v, t)) ∧ (x.kind = 3 → Adds s s') ∧ (x.kind = 4 → s' = s) ∧ (x.kind = 5 → s'.mask = s.mask) := by
  by_cases hk : x.own = true
  · have hkind : x.kind = 2 := by unfold PI.kind; rw [if_pos hk]
    rw [hkind]
    exact ⟨by simp, by simp, fun _ => own_at hk h, by simp, by simp, by simp⟩
  · by_cases hp : x.op.pure = true
    · have hkind : x.kind = 0 := by unfold PI.kind; rw [if_neg hk, if_pos hp]
      rw [hkind]
      have hc : ∀ m f l, x.op ≠ .call m f l := fun m f l q => by rw [q] at hp; simp [PO.pure] at hp
      rw [evalI_plain hk hc] at h
      exact ⟨fun _ => ⟨(pure_at (t := s) hp h).2, fun t => by rw [evalI_plain hk hc]; exact (pure_at hp h).1⟩, by simp, by simp, by simp, by simp, by simp⟩
    · by_cases hr : x.op.reads = true
      · have hc : ∀ m f l, x.op ≠ .call m f l := fun m f l q => by rw [q] at hr; simp [PO.reads] at hr
        have hkind : x.kind = 1 := by unfold PI.kind; rw [if_neg hk, if_neg hp, if_pos hr]
        rw [hkind]
        rw [evalI_plain hk hc] at h
        exact ⟨by simp, fun _ => ⟨(reads_mono hr (.refl s) h).2, fun t m => by rw [evalI_plain hk hc]; exact (reads_mono hr m h).1⟩, by simp, by simp, by simp, by simp⟩
      · by_cases ha : x.op.adds = true
        · have hc : ∀ m f l, x.op ≠ .call m f l := fun m f l q => by rw [q] at ha; simp [PO.adds] at ha
          have hkind : x.kind = 3 := by unfold PI.kind; rw [if_neg hk, if_neg hp, if_neg hr, if_pos ha]
          rw [hkind]
          rw [evalI_plain hk hc] at h
          exact ⟨by simp, by simp, by simp, fun _ => adds_ok ha h, by simp, by simp⟩
        · have hkind : x.kind = callKind x.op := by unfold PI.kind; rw [if_neg hk, if_neg hp, if_neg hr, if_neg ha]
          unfold evalI at h
          rw [if_neg hk] at h
          cases hx : x.op with
          | call m f l =>
            rw [hx] at h hkind
            simp only [evalPI] at h
            unfold callV at h
            split at h
            · cases m with
              | norm => rw [show x.kind = 6 from hkind]; exact ⟨by simp, by simp, by simp, by simp, by simp, by simp⟩
              | pure =>
                rw [show x.kind = 4 from hkind]
                simp only [callM, Option.bind_eq_some_iff, pureK, Option.some.injEq, Prod.mk.injEq] at h
                obtain ⟨q, _, _, rfl⟩ := h
                exact ⟨by simp, by simp, by simp, by simp, fun _ => rfl, by simp⟩
              | own =>
                rw [show x.kind = 5 from hkind]
                simp only [callM, Option.bind_eq_some_iff, ownK] at h
                obtain ⟨q, _, h⟩ := h
                split at h
                · rename_i hl
                  simp only [Option.some.injEq, Prod.mk.injEq] at h
                  obtain ⟨_, rfl⟩ := h
                  refine ⟨by simp, by simp, by simp, by simp, by simp, fun _ => ?_⟩
                  simp only [St.mask]
                  congr 1
                  apply List.ext_getElem?
                  intro i
                  simp only [List.getElem?_map]
                  by_cases hi : i < s.A.length
                  · rw [List.getElem?_eq_getElem hi, List.getElem?_eq_getElem (by omega)]; rfl
                  · rw [List.getElem?_eq_none (by omega), List.getElem?_eq_none (by omega)]
                · simp at h
            · simp at h
          | _ => rw [hx] at hkind; rw [show x.kind = 6 from hkind]; exact ⟨by simp, by simp, by simp, by simp, by simp, by simp⟩

theorem kind_val (h : valI O x e s = some (v, s')) :
    (x.kind = 0 → s' = s ∧ ∀ t, valI O x e t = some (v, t)) ∧ (x.kind = 1 → s' = s ∧ ∀ t, More s t → valI O x e t = some (v, t)) ∧
    (x.kind = 2 → s' = s ∧ ∀ t, More s.mask t.mask → valI O x e t = some (v, t)) ∧ (x.kind = 3 → Adds s s') ∧ (x.kind = 4 → s' = s) ∧ (x.kind = 5 → s'.mask = s.mask) := by
  unfold valI at h ⊢
  simp only [Option.bind_eq_some_iff] at h
  obtain ⟨b, hb, h⟩ := h
  rw [hb]
  simp only [Option.bind_some]
  cases b with
  | true => exact kind_at h
  | false =>
    simp only [stepT, Option.some.injEq, Prod.mk.injEq] at h
    obtain ⟨rfl, rfl⟩ := h
    exact ⟨fun _ => ⟨rfl, fun _ => rfl⟩, fun _ => ⟨rfl, fun _ _ => rfl⟩, fun _ => ⟨rfl, fun _ _ => rfl⟩, fun _ => ⟨.refl _, .refl _⟩, fun _ => rfl, fun _ => rfl⟩

theorem still_val (hk : stillK x.kind = true) (h : valI O x e s = some (v, s')) : s' = s := by
  obtain ⟨h0, h1, h2, _, h4, _⟩ := kind_val h
  unfold stillK at hk
  split at hk
  · rename_i q; exact (h0 q).1
  · rename_i q; exact (h1 q).1
  · rename_i q; exact (h2 q).1
  · rename_i q; exact h4 q
  · simp at hk

/-- The first goes behind the second. -/
theorem val_comm {e1 e2 : Env} {s1 s2 : St} {w : AV} (hc : commK x.kind p.kind = true) (hx : valI O x e s = some (v, s1)) (hp : valI O p e1 s1 = some (w, s2))
    (h1 : ∀ t, valI O p e1 t = valI O p e t) (h2 : ∀ t, valI O x e2 t = valI O x e t) : ∃ s1', valI O p e s = some (w, s1') ∧ valI O x e2 s1' = some (v, s2) := by
  obtain ⟨x0, x1, x2, x3, x4, x5⟩ := kind_val hx
  obtain ⟨p0, p1, p2, p3, p4, p5⟩ := kind_val hp
  simp only [commK, Bool.or_eq_true, Bool.and_eq_true, beq_iff_eq] at hc
  rcases hc with ((((hc | hc) | ⟨hc, hc'⟩) | ⟨hc | hc, hc'⟩) | ⟨hc, hc'⟩) | ⟨hc, hc'⟩
  · obtain ⟨rfl, q⟩ := x0 hc
    exact ⟨s2, by rw [← h1]; exact hp, by rw [h2]; exact q _⟩
  · obtain ⟨rfl, q⟩ := p0 hc
    exact ⟨s, by rw [← h1]; exact q _, by rw [h2]; exact hx⟩
  · have e1 := still_val hc hx; subst e1
    have e2 := still_val hc' hp; subst e2
    exact ⟨_, by rw [← h1]; exact hp, by rw [h2]; exact hx⟩
  · obtain ⟨rfl, q⟩ := x1 hc
    exact ⟨s2, by rw [← h1]; exact hp, by rw [h2]; exact q _ (p3 hc').more⟩
  · obtain ⟨rfl, q⟩ := x2 hc
    exact ⟨s2, by rw [← h1]; exact hp, by rw [h2]; exact q _ (p3 hc').mask⟩
  · obtain ⟨rfl, q⟩ := x2 hc
    exact ⟨s2, by rw [← h1]; exact hp, by rw [h2]; exact q _ (by rw [p5 hc']; exact .refl _)⟩
  · obtain ⟨rfl, q⟩ := p2 hc'
    exact ⟨s, by rw [← h1]; exact q _ (by rw [x5 hc]; exact .refl _), by rw [h2]; exact hx⟩

theorem swap_ok {R : List PI} {r : Env × St} (hc : commB x p = true) (h : runIs O (x :: p :: R) e s = some r) : ∃ r', runIs O (p :: x :: R) e s = some r' ∧ EqE r.1 r'.1 ∧ r'.2 = r.2 := by
  simp only [commB, Bool.and_eq_true] at hc
  obtain ⟨hk, hd, hx, hp⟩ := hc
  simp only [runIs_val, Option.bind_eq_some_iff] at h
  obtain ⟨⟨v, s1⟩, h1, ⟨w, s2⟩, h2, h3⟩ := h
  obtain ⟨s1', q1, q2⟩ := val_comm (e2 := setD e p.dst w) hk h1 h2 (fun t => valI_eq (setD_look hx)) (fun t => valI_eq (setD_look hp))
  obtain ⟨r', r1, r2, r3⟩ := runIs_eqE (setD_comm hd) h3
  exact ⟨r', by simp only [runIs_val, q1, q2, Option.bind_some]; exact r1, r2, r3⟩

theorem EqE.trans {e1 e2 e3 : Env} (h : EqE e1 e2) (k : EqE e2 e3) : EqE e1 e3 := fun t => (h t).trans (k t)

/-- One of them goes first. -/
theorem front_ok {R : List PI} : ∀ {pre : List PI} {e : Env} {s : St} {r : Env × St}, (∀ x ∈ pre, commB x p = true) → runIs O (pre ++ p :: R) e s = some r →
    ∃ r', runIs O (p :: (pre ++ R)) e s = some r' ∧ EqE r.1 r'.1 ∧ r'.2 = r.2
  | [], e, s, r, _, h => ⟨r, h, fun _ => rfl, rfl⟩
  | x :: pre, e, s, r, hc, h => by
    rw [List.cons_append, runIs_val, Option.bind_eq_some_iff] at h
    obtain ⟨q, hq, h⟩ := h
    obtain ⟨r', h1, h2, h3⟩ := front_ok (fun y hy => hc y (by simp [hy])) h
    have h4 : runIs O (x :: p :: (pre ++ R)) e s = some r' := by rw [runIs_val, hq]; exact h1
    obtain ⟨r'', k1, k2, k3⟩ := swap_ok (hc x (by simp)) h4
    exact ⟨r'', k1, h2.trans k2, k3.trans h3⟩

end
end Go.QAbs
