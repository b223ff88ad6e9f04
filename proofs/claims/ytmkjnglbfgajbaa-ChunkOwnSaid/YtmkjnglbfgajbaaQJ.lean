/- Entering and leaving a region; calls that may write less. No condition. -/
import Derived.Test.YtmkjnglbfgajbaaQI
namespace Go.QAbs
set_option linter.unusedVariables false
set_option linter.unusedSimpArgs false
open Go.RowKit (Below)

section
variable {W0 : World} {B0 : Nat} {s t : St} {ρ : Rho} {W : World}

/-- t shows what s shows, up to level M, and no more. -/
structure Sub (M : Nat) (s t : St) : Prop where
  eq : ∀ lv ix, lv ≤ M → t.get lv ix = s.get lv ix
  le : ∀ lv ix b, t.get lv ix = some b → lv ≤ M

theorem Sub.get {M : Nat} (h : Sub M s t) {lv ix : Nat} {b : Blk} (hg : t.get lv ix = some b) : s.get lv ix = some b := by
  rw [← h.eq lv ix (h.le lv ix b hg)]; exact hg

theorem Sub.cx {M : Nat} (h : Sub M s t) {m : Nat} (hm : m ≤ M) : (cx s ρ W m).le (cx t ρ W m) := by
  refine ⟨?_, ?_, ?_, ?_⟩
  · rintro b o v ⟨h1, h2⟩
    refine ⟨h1, fun hm => h2 ?_⟩
    obtain ⟨lv, ix, w, ver, es, hg, hr⟩ := hm
    exact ⟨lv, ix, w, ver, es, h.get hg, hr⟩
  · rintro lv ix ver i o v ⟨h1, h2, h3, h4, h5⟩
    have e := h.eq lv ix (by omega)
    exact ⟨h1, by rw [e]; exact h2, h3, fun w u es hg => h4 w u es (by rw [← e]; exact hg), fun w es hg => h5 w es (by rw [← e]; exact hg)⟩
  · rintro lv ix ver i o v ⟨h1, h2, h3, a, c, h4, h5⟩
    have e := h.eq lv ix (by omega)
    exact ⟨h1, by rw [e]; exact h2, fun w u es hg => h3 w u es (by rw [← e]; exact hg), a, c, h4, fun w es hg => h5 w es (by rw [← e]; exact hg)⟩
  · rintro lv ix v ⟨h1, h2, r, h3, h5⟩
    have e := h.eq lv ix (by omega)
    exact ⟨h1, by rw [e]; exact h2, r, h3, fun es hg => h5 es (by rw [← e]; exact hg)⟩

theorem Sub.rel {M : Nat} (h : Sub M s t) (hr : Rel W0 B0 s ρ W) : Rel W0 B0 t ρ W := by
  refine ⟨hr.below, hr.b0, ?_, ?_, ?_, ?_⟩
  · intro lv ix w ver es hg
    obtain ⟨a1, a2, a3⟩ := hr.arr lv ix w ver es (h.get hg)
    refine ⟨a1, fun i e he => ?_, a3⟩
    obtain ⟨x, h1, h2⟩ := a2 i e he
    exact ⟨x, h1.mono (h.cx (h.le _ _ _ hg)), h2⟩
  · intro lv ix w ver es lv' ix' w' ver' es' hg hg' hne
    exact hr.sep lv ix w ver es lv' ix' w' ver' es' (h.get hg) (h.get hg') hne
  · intro lv ix es hg
    obtain ⟨m1, en, clock, m2, m3, m4⟩ := hr.map lv ix es (h.get hg)
    refine ⟨m1, en, clock, m2, m3, fun i k v hk => ?_⟩
    obtain ⟨n1, x, n2, n3, n4⟩ := m4 i k v hk
    exact ⟨n1, x, n2, n3.mono (h.cx (h.le _ _ _ hg)), n4.mono (h.cx (h.le _ _ _ hg))⟩
  · intro lv ix es lv' ix' es' hg hg' hne
    exact hr.msep lv ix es lv' ix' es' (h.get hg) (h.get hg') hne

theorem Sub.same (h : ∀ lv ix, t.get lv ix = s.get lv ix) : Sub t.A.length s t := ⟨fun lv ix _ => h lv ix, fun _ _ _ hg => St.get_le hg⟩

theorem get_none {st : St} {lv ix : Nat} (h : st.A.length < lv) : st.get lv ix = none := by
  cases hg : st.get lv ix with
  | none => rfl
  | some b => have := St.get_le hg; omega

theorem push_get (st : St) (lv ix : Nat) : st.push.get lv ix = st.get lv ix := by
  unfold St.push
  rw [St.get_push]
  split
  · rename_i h; rw [get_none (st := st) (by omega)]; simp [vis]
  · rfl

theorem Sub.push (st : St) : Sub st.A.length st st.push := ⟨fun lv ix _ => push_get st lv ix, fun lv ix b hg => by rw [push_get] at hg; exact St.get_le hg⟩
theorem Sub.unpush (st : St) : Sub st.A.length st.push st := ⟨fun lv ix _ => (push_get st lv ix).symm, fun lv ix b hg => St.get_le hg⟩

theorem pop_eq : ∀ {A A' : List (Bool × List Blk)} {r : Bool × List Blk}, pop A = some (A', r) → A = A' ++ [r]
  | [], _, _, h => by simp [pop] at h
  | [a], _, _, h => by simp only [pop, Option.some.injEq, Prod.mk.injEq] at h; obtain ⟨rfl, rfl⟩ := h; rfl
  | a :: b :: r, A', x, h => by
    simp only [pop, Option.map_eq_some_iff] at h
    obtain ⟨⟨A1, y⟩, h1, h2⟩ := h
    simp only [Prod.mk.injEq] at h2
    obtain ⟨rfl, rfl⟩ := h2
    rw [pop_eq h1]; rfl

/-- Leaving the region that a scoped call began with. -/
theorem leave_ok {st st2 : St} {ρ2 : Rho} {W2 : World} {A' : List (Bool × List Blk)} {r : Bool × List Blk} (hr : Rel W0 B0 st2 ρ2 W2) (he : Ev st.push ρ W st2 ρ2 W2) (hp : pop st2.A = some (A', r)) :
    Goes W0 B0 st ρ W ⟨A', r.1, r.2⟩ ρ2 W2 ∧ (cx st2 ρ2 W2 st.A.length).le (cx ⟨A', r.1, r.2⟩ ρ2 W2 st.A.length) := by
  have hA := pop_eq hp
  have hlen : A'.length = st.A.length := by have := he.len; rw [hA] at this; simp [St.push] at this; exact this
  have hst2 : st2 = ⟨A' ++ [(r.1, r.2)], st2.ro, st2.L⟩ := by rw [← hA]
  have hsub : Sub st.A.length st2 ⟨A', r.1, r.2⟩ := by
    refine ⟨fun lv ix hlv => ?_, fun lv ix b hg => by have := St.get_le hg; simp only [hlen] at this; exact this⟩
    rw [hst2, St.get_push, if_neg (by omega)]
  have hA0 : st.push.A[st.A.length]? = some (st.ro, st.L) := by simp [St.push]
  obtain ⟨r', h1, h2, h3⟩ := he.old _ _ hA0
  have hr' : r' = r := by
    rw [hA, ← hlen] at h1
    simpa using h1.symm
  subst hr'
  refine ⟨⟨hsub.rel hr, hlen, ?_, ?_, h2, fun hro => ?_⟩, hsub.cx (Nat.le_refl _)⟩
  · intro m hm
    exact ((Sub.push st).cx hm).trans ((he.le m (by simp [St.push]; omega)).trans (hsub.cx hm))
  · intro lv x hx
    have hlt := lt_of_get hx
    have hx' : st.push.A[lv]? = some x := by simp only [St.push]; rw [List.getElem?_append_left hlt]; exact hx
    obtain ⟨y, k1, k2, k3⟩ := he.old _ _ hx'
    refine ⟨y, ?_, k2, k3⟩
    rw [hA, List.getElem?_append_left (by omega)] at k1
    exact k1
  · show r'.2 = st.L
    rw [h3 hro]

/-- The mark 'only read' on the current region alone. -/
theorem ro_get (st : St) (b : Bool) (lv ix : Nat) : St.get { st with ro := b } lv ix = st.get lv ix := rfl

theorem own_ok {st st2 : St} {ρ2 : Rho} {W2 : World} (hr : Rel W0 B0 st2 ρ2 W2) (he : Ev { st with ro := true } ρ W st2 ρ2 W2) :
    Goes W0 B0 st ρ W { st2 with ro := st.ro } ρ2 W2 ∧ ∀ m, (cx st2 ρ2 W2 m).le (cx { st2 with ro := st.ro } ρ2 W2 m) := by
  have hs : Sub st2.A.length st2 { st2 with ro := st.ro } := Sub.same (s := st2) (t := { st2 with ro := st.ro }) (fun lv ix => rfl)
  have hcx : ∀ m, (cx st2 ρ2 W2 m).le (cx { st2 with ro := st.ro } ρ2 W2 m) := fun m => .refl _
  refine ⟨⟨hs.rel hr, he.len, fun m hm => (he.le m hm).trans (hcx m), he.old, rfl, fun _ => he.cur rfl⟩, hcx⟩

theorem allRo_get (st : St) (lv ix : Nat) : st.allRo.get lv ix = st.get lv ix := by
  unfold St.allRo St.get
  simp only [List.length_map, List.getElem?_map]
  split
  · rfl
  · cases st.A[lv]? <;> rfl

theorem pure_ok {st st2 : St} {ρ2 : Rho} {W2 : World} (hr : Rel W0 B0 st2 ρ2 W2) (he : Ev st.allRo ρ W st2 ρ2 W2) :
    Goes W0 B0 st ρ W st ρ2 W2 ∧ ∀ m, m ≤ st.A.length → (cx st2 ρ2 W2 m).le (cx st ρ2 W2 m) := by
  have hl1 : st.allRo.A.length = st.A.length := by simp [St.allRo]
  have hlen : st2.A.length = st.A.length := by rw [he.len, hl1]
  have hget : ∀ lv ix, st.get lv ix = st2.get lv ix := by
    intro lv ix
    by_cases h1 : lv = st.A.length
    · subst h1
      have hL : st2.L = st.L := he.cur rfl
      simp [St.get, hlen, hL]
    · by_cases h2 : lv < st.A.length
      · have hx : st.allRo.A[lv]? = some (true, (st.A[lv]).2) := by simp [St.allRo, List.getElem?_eq_getElem h2]
        obtain ⟨y, k1, k2, k3⟩ := he.old _ _ hx
        have := k3 rfl; subst this
        simp only [St.get, hlen, if_neg h1, k1, List.getElem?_eq_getElem h2, Option.bind_some]
      · rw [get_none (by omega), get_none (by omega)]
  have hs : Sub st.A.length st2 st := Sub.same hget
  have hs0 : Sub st.allRo.A.length st st.allRo := Sub.same (allRo_get st)
  refine ⟨⟨hs.rel hr, rfl, ?_, fun lv r h => ⟨r, h, rfl, fun _ => rfl⟩, rfl, fun _ => rfl⟩, fun m hm => hs.cx hm⟩
  intro m hm
  exact (hs0.cx (by omega)).trans ((he.le m (by omega)).trans (hs.cx hm))
end
end Go.QAbs
