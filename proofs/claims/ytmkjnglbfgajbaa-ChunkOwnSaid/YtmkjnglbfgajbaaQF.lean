/- A change of one block of the store, and what it keeps. No condition. -/
import Derived.Test.YtmkjnglbfgajbaaQE
namespace Go.QAbs
set_option linter.unusedVariables false
set_option linter.unusedSimpArgs false
open Go.RowKit (Below)

def inR (l : Loc) (w b o : Nat) : Prop := l.b = b ∧ l.o ≤ o ∧ o < l.o + l.c * w

theorem Mut_iff (st : St) (ρ : Rho) (b o : Nat) : Mut st ρ b o ↔ ∃ lv ix w ver es, st.get lv ix = some (.arr w ver es) ∧ inR (ρ lv ix) w b o := Iff.rfl

structure Chg (W0 : World) (B0 : Nat) (st : St) (ρ : Rho) (W : World) (lv0 ix0 : Nat) (blk : Blk) (st' : St) (ρ' : Rho) (W' : World) : Prop where
  get0 : st'.get lv0 ix0 = some blk
  get : ∀ lv ix, ¬ (lv = lv0 ∧ ix = ix0) → st'.get lv ix = st.get lv ix
  rho : ∀ lv ix, ¬ (lv = lv0 ∧ ix = ix0) → ρ' lv ix = ρ lv ix
  len : st'.A.length = st.A.length
  old : ∀ (lv : Nat) (r : Bool × List Blk), st.A[lv]? = some r → ∃ r' : Bool × List Blk, st'.A[lv]? = some r' ∧ r'.1 = r.1 ∧ (r.1 = true → r' = r)
  ro : st'.ro = st.ro
  cur : st.ro = true → st'.L = st.L
  below : Below B0 W0 W'
  size : W.heap.size ≤ W'.heap.size
  cell : ∀ b o v, cellP W b o v → (∀ w ver es, st.get lv0 ix0 = some (.arr w ver es) → ¬ inR (ρ lv0 ix0) w b o) → cellP W' b o v
  froz : ∀ b o, (W.cell? ⟨b, o, none⟩).isSome = true → W'.frozen? ⟨b, o, none⟩ = W.frozen? ⟨b, o, none⟩
  maps : ∀ b en clock, W.heap[b]? = some (.map en clock) → (∀ es, st.get lv0 ix0 = some (.map es) → b ≠ (ρ lv0 ix0).b) → W'.heap[b]? = some (.map en clock)
  narr : ∀ w ver es, blk = .arr w ver es →
    (st.get lv0 ix0 = none ∨ ∃ w1 ver1 es1, st.get lv0 ix0 = some (.arr w1 ver1 es1) ∧ ver1 ≤ ver ∧ (ver = ver1 → w = w1 ∧ es1.length ≤ es.length ∧ ρ' lv0 ix0 = ρ lv0 ix0)) ∧
    ∀ j, j < (ρ' lv0 ix0).c * w → W.cell? ⟨(ρ' lv0 ix0).b, (ρ' lv0 ix0).o + j, none⟩ = none ∨
      ∃ w1 ver1 es1, st.get lv0 ix0 = some (.arr w1 ver1 es1) ∧ inR (ρ lv0 ix0) w1 (ρ' lv0 ix0).b ((ρ' lv0 ix0).o + j)
  nmap : ∀ es, blk = .map es → (st.get lv0 ix0 = none ∧ W.heap[(ρ' lv0 ix0).b]? = none) ∨ ((∃ es1, st.get lv0 ix0 = some (.map es1)) ∧ ρ' lv0 ix0 = ρ lv0 ix0)

section
variable {W0 : World} {B0 : Nat} {st st' : St} {ρ ρ' : Rho} {W W' : World} {lv0 ix0 : Nat} {blk : Blk}

theorem Rel.mem_cell (h : Rel W0 B0 st ρ W) {lv ix w ver : Nat} {es : List AV} (hg : st.get lv ix = some (.arr w ver es)) {b o : Nat} (hr : inR (ρ lv ix) w b o) :
    (W.cell? ⟨b, o, none⟩).isSome = true := by
  obtain ⟨rfl, h1, h2⟩ := hr
  have := (h.arr lv ix w ver es hg).mem (o - (ρ lv ix).o) (by omega)
  rw [show (ρ lv ix).o + (o - (ρ lv ix).o) = o by omega] at this
  exact this.2.1

theorem Rel.apart (h : Rel W0 B0 st ρ W) {lv ix w ver lv' ix' w' ver' : Nat} {es es' : List AV} (hg : st.get lv ix = some (.arr w ver es)) (hg' : st.get lv' ix' = some (.arr w' ver' es'))
    {b o : Nat} (hr : inR (ρ lv ix) w b o) (hr' : inR (ρ lv' ix') w' b o) : lv = lv' ∧ ix = ix' := by
  obtain ⟨hb, h1, h2⟩ := hr
  obtain ⟨hb', h1', h2'⟩ := hr'
  by_cases hc : lv = lv' ∧ ix = ix'
  · exact hc
  · exact absurd ⟨by rw [hb, hb'], by omega⟩ (h.sep lv ix w ver es lv' ix' w' ver' es' hg hg' hc (o - (ρ lv ix).o) (o - (ρ lv' ix').o) (by omega) (by omega))

theorem Chg.mut (h : Rel W0 B0 st ρ W) (k : Chg W0 B0 st ρ W lv0 ix0 blk st' ρ' W') {b o : Nat} {v : Value} (hc : cellP W b o v) (hm : Mut st' ρ' b o) : Mut st ρ b o := by
  obtain ⟨lv, ix, w, ver, es, hg, hr⟩ := hm
  by_cases hid : lv = lv0 ∧ ix = ix0
  · obtain ⟨rfl, rfl⟩ := hid
    rw [k.get0] at hg
    simp only [Option.some.injEq] at hg
    have h1 := (k.narr w ver es hg).2 (o - (ρ' lv ix).o) (by have := hr; omega)
    obtain ⟨rfl, hr1, hr2⟩ := hr
    rw [show (ρ' lv ix).o + (o - (ρ' lv ix).o) = o by omega] at h1
    rcases h1 with h1 | ⟨w1, ver1, es1, h1, h2⟩
    · unfold cellP at hc; rw [h1] at hc; simp at hc
    · exact ⟨lv, ix, w1, ver1, es1, h1, h2⟩
  · rw [k.get lv ix hid] at hg
    rw [k.rho lv ix hid] at hr
    exact ⟨lv, ix, w, ver, es, hg, hr⟩

theorem Chg.isSome (k : Chg W0 B0 st ρ W lv0 ix0 blk st' ρ' W') {lv ix : Nat} (hs : (st.get lv ix).isSome = true) : (st'.get lv ix).isSome = true := by
  by_cases hid : lv = lv0 ∧ ix = ix0
  · obtain ⟨rfl, rfl⟩ := hid; rw [k.get0]; rfl
  · rw [k.get lv ix hid]; exact hs

theorem Chg.le (h : Rel W0 B0 st ρ W) (k : Chg W0 B0 st ρ W lv0 ix0 blk st' ρ' W') (m : Nat) : (cx st ρ W m).le (cx st' ρ' W' m) := by
  refine ⟨?_, ?_, ?_, ?_⟩
  · rintro b o v ⟨hc, hm⟩
    refine ⟨k.cell b o v hc fun w ver es hg hr => hm ⟨lv0, ix0, w, ver, es, hg, hr⟩, fun hm' => hm (k.mut h hc hm')⟩
  · rintro lv ix ver i o v ⟨h1, h2, h3, h4, h5⟩
    refine ⟨h1, k.isSome h2, h3, ?_, ?_⟩
    · intro w u es hg
      by_cases hid : lv = lv0 ∧ ix = ix0
      · obtain ⟨rfl, rfl⟩ := hid
        rw [k.get0] at hg; simp only [Option.some.injEq] at hg
        rcases (k.narr w u es hg).1 with hn | ⟨w1, ver1, es1, hg1, hle, _⟩
        · rw [hn] at h2; simp at h2
        · exact Nat.le_trans (h4 _ _ _ hg1) hle
      · rw [k.get lv ix hid] at hg; exact h4 _ _ _ hg
    · intro w es hg
      by_cases hid : lv = lv0 ∧ ix = ix0
      · obtain ⟨rfl, rfl⟩ := hid
        rw [k.get0] at hg; simp only [Option.some.injEq] at hg
        rcases (k.narr w ver es hg).1 with hn | ⟨w1, ver1, es1, hg1, hle, heq⟩
        · rw [hn] at h2; simp at h2
        · have hv : ver = ver1 := Nat.le_antisymm (h4 _ _ _ hg1) hle
          obtain ⟨e1, e2, e3⟩ := heq hv
          subst hv; subst e1
          rw [e3]; exact h5 _ _ hg1
      · rw [k.get lv ix hid] at hg; rw [k.rho lv ix hid]; exact h5 _ _ hg
  · rintro lv ix ver s n v ⟨h1, h2, h4, a, c, h3, h5⟩
    refine ⟨h1, k.isSome h2, ?_, a, c, h3, ?_⟩
    · intro w u es hg
      by_cases hid : lv = lv0 ∧ ix = ix0
      · obtain ⟨rfl, rfl⟩ := hid
        rw [k.get0] at hg; simp only [Option.some.injEq] at hg
        rcases (k.narr w u es hg).1 with hn | ⟨w1, ver1, es1, hg1, hle, _⟩
        · rw [hn] at h2; simp at h2
        · exact Nat.le_trans (h4 _ _ _ hg1) hle
      · rw [k.get lv ix hid] at hg; exact h4 _ _ _ hg
    · intro w es hg
      by_cases hid : lv = lv0 ∧ ix = ix0
      · obtain ⟨rfl, rfl⟩ := hid
        rw [k.get0] at hg; simp only [Option.some.injEq] at hg
        rcases (k.narr w ver es hg).1 with hn | ⟨w1, ver1, es1, hg1, hle, heq⟩
        · rw [hn] at h2; simp at h2
        · have hv : ver = ver1 := Nat.le_antisymm (h4 _ _ _ hg1) hle
          obtain ⟨e1, e2, e3⟩ := heq hv
          subst hv; subst e1
          obtain ⟨g1, g2, g3⟩ := h5 _ _ hg1
          rw [e3]; exact ⟨by omega, g2, g3⟩
      · rw [k.get lv ix hid] at hg; rw [k.rho lv ix hid]; exact h5 _ _ hg
  · rintro lv ix v ⟨h1, h2, r, h3, h5⟩
    refine ⟨h1, k.isSome h2, r, h3, ?_⟩
    intro es hg
    by_cases hid : lv = lv0 ∧ ix = ix0
    · obtain ⟨rfl, rfl⟩ := hid
      rw [k.get0] at hg; simp only [Option.some.injEq] at hg
      rcases k.nmap es hg with ⟨hn, _⟩ | ⟨⟨es1, hg1⟩, he⟩
      · rw [hn] at h2; simp at h2
      · rw [he]; exact h5 _ hg1
    · rw [k.get lv ix hid] at hg; rw [k.rho lv ix hid]; exact h5 _ hg

theorem Chg.ev (h : Rel W0 B0 st ρ W) (k : Chg W0 B0 st ρ W lv0 ix0 blk st' ρ' W') : Ev st ρ W st' ρ' W' :=
  ⟨k.len, fun m _ => k.le h m, k.old, k.ro, k.cur⟩

theorem Chg.rel (h : Rel W0 B0 st ρ W) (k : Chg W0 B0 st ρ W lv0 ix0 blk st' ρ' W')
    (ha : ∀ w ver es, blk = .arr w ver es → ArrOk B0 (cx st' ρ' W' lv0) W' (ρ' lv0 ix0) w es) (hm : ∀ es, blk = .map es → MapOk B0 (cx st' ρ' W' lv0) W' (ρ' lv0 ix0) es) :
    Rel W0 B0 st' ρ' W' := by
  have notIn : ∀ lv ix w ver es, st.get lv ix = some (.arr w ver es) → ¬ (lv = lv0 ∧ ix = ix0) → ∀ b o, inR (ρ lv ix) w b o →
      ∀ w1 ver1 es1, st.get lv0 ix0 = some (.arr w1 ver1 es1) → ¬ inR (ρ lv0 ix0) w1 b o := fun lv ix w ver es hg hid b o hr w1 ver1 es1 hg1 hr1 => hid (h.apart hg hg1 hr hr1)
  refine ⟨k.below, Nat.le_trans h.b0 k.size, ?_, ?_, ?_, ?_⟩
  · intro lv ix w ver es hg
    by_cases hid : lv = lv0 ∧ ix = ix0
    · obtain ⟨rfl, rfl⟩ := hid
      rw [k.get0] at hg; simp only [Option.some.injEq] at hg
      exact ha w ver es hg
    · rw [k.get lv ix hid] at hg
      rw [k.rho lv ix hid]
      obtain ⟨a1, a2, a3⟩ := h.arr lv ix w ver es hg
      refine ⟨a1, ?_, ?_⟩
      · intro i e he
        obtain ⟨x, hx1, hx2, hx3⟩ := a2 i e he
        refine ⟨x, hx1.mono (k.le h lv), hx2, ?_⟩
        intro j v hv
        have hj : j < x.cells.size := by
          rcases Nat.lt_or_ge j x.cells.size with h' | h'
          · exact h'
          · rw [Array.getElem?_eq_none h'] at hv; simp at hv
        have hi : i < es.length := by
          rcases Nat.lt_or_ge i es.length with h' | h'
          · exact h'
          · rw [List.getElem?_eq_none h'] at he; simp at he
        have hlt : i * w + j < (ρ lv ix).c * w := by
          have : (i + 1) * w ≤ (ρ lv ix).c * w := Nat.mul_le_mul_right w (by omega)
          rw [Nat.add_mul, Nat.one_mul] at this; omega
        exact k.cell _ _ _ (hx3 j v hv) (notIn lv ix w ver es hg hid _ _ ⟨rfl, by omega, by omega⟩)
      · intro j hj
        obtain ⟨m1, m2, m3⟩ := a3 j hj
        obtain ⟨v, hv⟩ := Option.isSome_iff_exists.1 m2
        have := k.cell _ _ v hv (notIn lv ix w ver es hg hid _ _ ⟨rfl, by omega, by omega⟩)
        unfold cellP at this
        exact ⟨m1, by rw [this]; rfl, by rw [k.froz _ _ m2]; exact m3⟩
  · intro lv ix w ver es lv' ix' w' ver' es' hg hg' hne j j' hj hj' hcl
    by_cases hid : lv = lv0 ∧ ix = ix0
    · by_cases hid' : lv' = lv0 ∧ ix' = ix0
      · exact hne ⟨by omega, by omega⟩
      · obtain ⟨rfl, rfl⟩ := hid
        rw [k.get0] at hg; simp only [Option.some.injEq] at hg
        rw [k.get lv' ix' hid'] at hg'
        rw [k.rho lv' ix' hid'] at hj' hcl
        rcases (k.narr w ver es hg).2 j hj with h1 | ⟨w1, ver1, es1, h1, h2⟩
        · have := h.mem_cell hg' (b := (ρ lv' ix').b) (o := (ρ lv' ix').o + j') ⟨rfl, by omega, by omega⟩
          rw [← hcl.1, ← hcl.2, h1] at this; simp at this
        · have := h.apart h1 hg' h2 ⟨hcl.1.symm, by omega, by omega⟩
          exact hid' ⟨this.1.symm, this.2.symm⟩
    · rw [k.get lv ix hid] at hg
      rw [k.rho lv ix hid] at hj hcl
      by_cases hid' : lv' = lv0 ∧ ix' = ix0
      · obtain ⟨rfl, rfl⟩ := hid'
        rw [k.get0] at hg'; simp only [Option.some.injEq] at hg'
        rcases (k.narr w' ver' es' hg').2 j' hj' with h1 | ⟨w1, ver1, es1, h1, h2⟩
        · have := h.mem_cell hg (b := (ρ lv ix).b) (o := (ρ lv ix).o + j) ⟨rfl, by omega, by omega⟩
          rw [hcl.1, hcl.2, h1] at this; simp at this
        · have := h.apart hg h1 ⟨hcl.1, by omega, by omega⟩ h2
          exact hid this
      · rw [k.get lv' ix' hid'] at hg'
        rw [k.rho lv' ix' hid'] at hj' hcl
        exact h.sep lv ix w ver es lv' ix' w' ver' es' hg hg' hne j j' hj hj' hcl
  · intro lv ix es hg
    by_cases hid : lv = lv0 ∧ ix = ix0
    · obtain ⟨rfl, rfl⟩ := hid
      rw [k.get0] at hg; simp only [Option.some.injEq] at hg
      exact hm es hg
    · rw [k.get lv ix hid] at hg
      rw [k.rho lv ix hid]
      obtain ⟨m1, en, clock, m2, m3, m4⟩ := h.map lv ix es hg
      refine ⟨m1, en, clock, k.maps _ _ _ m2 fun es1 hg1 => h.msep lv ix es lv0 ix0 es1 hg hg1 hid, m3, fun i kk v hk => ?_⟩
      obtain ⟨n1, x, n2, n3, n4⟩ := m4 i kk v hk
      exact ⟨n1, x, n2, n3.mono (k.le h lv), n4.mono (k.le h lv)⟩
  · intro lv ix es lv' ix' es' hg hg' hne
    by_cases hid : lv = lv0 ∧ ix = ix0
    · by_cases hid' : lv' = lv0 ∧ ix' = ix0
      · exact absurd ⟨by omega, by omega⟩ hne
      · obtain ⟨rfl, rfl⟩ := hid
        rw [k.get0] at hg; simp only [Option.some.injEq] at hg
        rw [k.get lv' ix' hid'] at hg'
        rw [k.rho lv' ix' hid']
        rcases k.nmap es hg with ⟨_, hn⟩ | ⟨⟨es1, hg1⟩, he⟩
        · obtain ⟨_, en, clock, m2, _⟩ := h.map lv' ix' es' hg'
          intro e; rw [← e, hn] at m2; simp at m2
        · rw [he]; exact h.msep lv ix es1 lv' ix' es' hg1 hg' hne
    · rw [k.get lv ix hid] at hg
      rw [k.rho lv ix hid]
      by_cases hid' : lv' = lv0 ∧ ix' = ix0
      · obtain ⟨rfl, rfl⟩ := hid'
        rw [k.get0] at hg'; simp only [Option.some.injEq] at hg'
        rcases k.nmap es' hg' with ⟨_, hn⟩ | ⟨⟨es1, hg1⟩, he⟩
        · obtain ⟨_, en, clock, m2, _⟩ := h.map lv ix es hg
          intro e; rw [e, hn] at m2; simp at m2
        · rw [he]; exact h.msep lv ix es lv' ix' es1 hg hg1 hne
      · rw [k.get lv' ix' hid'] at hg'
        rw [k.rho lv' ix' hid']
        exact h.msep lv ix es lv' ix' es' hg hg' hne
end
end Go.QAbs
