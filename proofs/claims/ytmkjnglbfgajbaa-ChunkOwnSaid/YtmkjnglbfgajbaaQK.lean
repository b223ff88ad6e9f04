/- Operands; parts of values; the operations that only compute. No condition. -/
import Derived.Test.YtmkjnglbfgajbaaQJ
import Derived.IntWalk
namespace Go.QAbs
set_option linter.unusedVariables false
set_option linter.unusedSimpArgs false
open Go.RowKit (Below)

structure Cx.Ok (C : Cx) : Prop where
  ptr : ∀ {lv ix ver i o v}, C.ptr lv ix ver i o v → ∃ a, v = .pointer (some a)
  ref : ∀ {lv ix ver s n v}, C.ref lv ix ver s n v → ∃ a c, v = .slice a n c
  map : ∀ {lv ix v}, C.map lv ix v → ∃ r, v = .map (some r)

theorem cx_ok (st : St) (ρ : Rho) (W : World) (m : Nat) : (cx st ρ W m).Ok :=
  ⟨fun h => h.2.2.1, fun h => let ⟨_, _, _, a, c, e, _⟩ := h; ⟨a, c, e⟩, fun h => let ⟨_, _, r, e, _⟩ := h; ⟨r, e⟩⟩

theorem pure_cx_ok (C : Cx) : C.pure.Ok := ⟨fun h => h.elim, fun h => h.elim, fun h => h.elim⟩

theorem Dc_ok (b : Nat) (st : St) (ρ : Rho) (W : World) : (Dc b st ρ W).Ok := by
  cases b with
  | zero => exact pure_cx_ok _
  | succ m => exact cx_ok _ _ _ _

theorem add_mk (b o n : Nat) : Addr.add ⟨b, o, none⟩ n = ⟨b, o + n, none⟩ := by unfold Addr.add; split <;> simp_all

section
variable {C : Cx}

/-- A value that is no struct is one cell. -/
theorem R.single (ok : C.Ok) {v : AV} {x : Value} (h : R C v x) (h1 : v.isAny = false) (h2 : ∀ cs, v ≠ .agg cs) : x.cells = #[x] := by
  cases h with
  | any => simp [AV.isAny] at h1
  | ptr h => obtain ⟨a, rfl⟩ := ok.ptr h; rfl
  | ref h => obtain ⟨a, c, rfl⟩ := ok.ref h; rfl
  | map h => obtain ⟨r, rfl⟩ := ok.map h; rfl
  | agg hl hi => exact absurd rfl (h2 _)
  | _ => rfl

theorem R.cells (ok : C.Ok) {v : AV} {x : Value} (h : R C v x) (h1 : v.isAny = false) : RL C v.cells x.cells.toList := by
  by_cases h2 : ∃ cs, v = .agg cs
  · obtain ⟨cs, rfl⟩ := h2
    cases h with
    | agg hl hi => exact ⟨hl, hi⟩
  · have hs := h.single ok h1 (fun cs e => h2 ⟨cs, e⟩)
    rw [hs]
    have : v.cells = [v] := by
      cases v <;> first | rfl | (exact absurd ⟨_, rfl⟩ h2)
    rw [this]
    exact .cons h (.nil _)

theorem R.one (ok : C.Ok) {v : AV} {x : Value} (h : R C v x) (h1 : v.one = true) : x.oneCell' = true := by
  cases h with
  | any => simp [AV.one] at h1
  | undef => simp [AV.one] at h1
  | agg => simp [AV.one] at h1
  | tup => simp [AV.one] at h1
  | ptr h => obtain ⟨a, rfl⟩ := ok.ptr h; rfl
  | ref h => obtain ⟨a, c, rfl⟩ := ok.ref h; rfl
  | map h => obtain ⟨r, rfl⟩ := ok.map h; rfl
  | _ => rfl

theorem wide_any {v : AV} {w : Nat} (h : v.wide = some w) : v.isAny = false := by cases v <;> simp_all [AV.wide, AV.isAny]

theorem wide_cells {v : AV} {w : Nat} (h : v.wide = some w) : v.cells.length = w ∧ ∀ c ∈ v.cells, c.one = true := by
  cases v with
  | agg cs =>
    simp only [AV.wide] at h
    split at h
    · rename_i ha
      simp only [Option.some.injEq] at h
      exact ⟨h, fun c hc => List.all_eq_true.1 ha c hc⟩
    · simp at h
  | any => simp [AV.wide] at h
  | undef => simp [AV.wide] at h
  | tup vs => simp [AV.wide] at h
  | _ => simp only [AV.wide, Option.some.injEq] at h; exact ⟨by simpa [AV.cells] using h, fun c hc => by simp only [AV.cells, List.mem_singleton] at hc; subst hc; rfl⟩

theorem R.wide (ok : C.Ok) {v : AV} {x : Value} (h : R C v x) {w : Nat} (hw : v.wide = some w) : x.cells.size = w ∧ ∀ y ∈ x.cells.toList, y.oneCell' = true := by
  have hc := h.cells ok (wide_any hw)
  obtain ⟨w1, w2⟩ := wide_cells hw
  refine ⟨by have h1 := hc.1; have h2 : x.cells.toList.length = x.cells.size := Array.length_toList; omega, fun y hy => ?_⟩
  obtain ⟨i, hi⟩ := List.getElem?_of_mem hy
  have hlt := lt_of_get hi
  rw [← hc.1] at hlt
  exact (hc.2 i _ y (List.getElem?_eq_getElem hlt) hi).one ok (w2 _ (List.getElem_mem hlt))

/-- Part of a value, by its cells. -/
theorem partOf_ok (ok : C.Ok) {e v : AV} {x : Value} (h : R C e x) {agg : Bool} {o n : Nat} (hp : partOf e agg o n = some v) :
    (agg = true ∧ o + n ≤ x.cells.size ∧ R C v (.agg ((x.cells.toList.drop o).take n).toArray)) ∨ (agg = false ∧ ∃ y, x.cells[o]? = some y ∧ R C v y) := by
  unfold partOf at hp
  split at hp
  · simp at hp
  · rename_i ha
    have hc := h.cells ok (by simpa using ha)
    split at hp
    · rename_i hg
      split at hp
      · rename_i hlen
        simp only [Option.some.injEq] at hp; subst hp
        exact .inl ⟨hg, by have h1 := hc.1; have h2 : x.cells.toList.length = x.cells.size := Array.length_toList; omega, .agg' ((hc.drop o).take n)⟩
      · simp at hp
    · rename_i hg
      obtain ⟨y, hy, hr⟩ := hc.get hp
      exact .inr ⟨by simpa using hg, y, by simpa using hy, hr⟩

theorem ofCell_ok {v : Value} {a : AV} (h : ofCell v = some a) : R C a v := by
  unfold ofCell at h
  split at h <;> simp only [Option.some.injEq, reduceCtorEq] at h <;> subst h
  · exact .bool _
  · exact .int _ _
  · exact .str _
  · exact .nilptr
  · exact .lit0 _ _
  · exact .nilmap
  · exact .nilfunc
  · exact .niliface

theorem mapM_ok {α β : Type} {f : α → Option β} : ∀ {l : List α} {l' : List β}, l.mapM f = some l' → l.length = l'.length ∧ ∀ (i : Nat) (a : α) (b : β), l[i]? = some a → l'[i]? = some b → f a = some b
  | [], l', h => by simp at h; subst h; exact ⟨rfl, by simp⟩
  | a :: l, l', h => by
    simp only [List.mapM_cons, Option.pure_def, Option.bind_eq_bind, Option.bind_eq_some_iff, Option.some.injEq] at h
    obtain ⟨b, hb, bs, hbs, rfl⟩ := h
    obtain ⟨h1, h2⟩ := mapM_ok hbs
    refine ⟨by simp [h1], fun i x y hx hy => ?_⟩
    cases i with
    | zero => simp at hx hy; subst hx; subst hy; exact hb
    | succ i => exact h2 i x y (by simpa using hx) (by simpa using hy)

theorem ofConst_ok {v : Value} {a : AV} (h : ofConst v = some a) : R C a v := by
  unfold ofConst at h
  split at h
  · simp only [Option.some.injEq] at h; subst h; exact .nils _
  · rename_i cs
    simp only [Option.map_eq_some_iff] at h
    obtain ⟨l, hl, rfl⟩ := h
    obtain ⟨h1, h2⟩ := mapM_ok hl
    exact .agg' (xs := cs.toList) ⟨h1.symm, fun i v x hv hx => ofCell_ok (h2 i x v hx hv)⟩
  · rename_i vs
    split at h
    · rename_i he
      simp only [Option.some.injEq] at h; subst h
      have : vs = #[] := by simpa using he
      subst this
      exact .tup' (.nil _)
    · simp at h
  · rename_i f a b
    split at h
    · rename_i he
      simp only [Option.some.injEq] at h; subst h
      have h1 : a = #[] := by simpa using he.1
      have h2 : b = #[] := by simpa using he.2
      subst h1; subst h2
      exact .func _ (xs := []) (ys := []) rfl rfl (by simp) (by simp)
    · simp at h
  · exact ofCell_ok h

/-- The slots hold what the environment says. -/
def EnvR (C : Cx) (e : Env) (tmps : Array Value) : Prop := ∀ t, R C (look e t) (tmps.getD t Go.undef)

theorem EnvR.mono {D : Cx} {e : Env} {tmps : Array Value} (h : EnvR C e tmps) (k : C.le D) : EnvR D e tmps := fun t => (h t).mono k

theorem opd_ok {x : Operand} {q : Opd} (h : opd x = some q) {e : Env} {a : Act} (he : EnvR C e a.tmps) : R C (q.get e) (a.eval x) := by
  cases x with
  | tmp t => simp only [opd, Option.some.injEq] at h; subst h; exact he t
  | const v =>
    simp only [opd, Option.map_eq_some_iff] at h
    obtain ⟨u, hu, rfl⟩ := h
    exact ofConst_ok hu
  | global g => simp [opd] at h
  | func f => simp only [opd, Option.some.injEq] at h; subst h; exact .func _ (xs := []) (ys := []) rfl rfl (by simp) (by simp)

theorem opds_ok {l : List Operand} {qs : List Opd} (h : opds l = some qs) {e : Env} {a : Act} (he : EnvR C e a.tmps) : RL C (gets e qs) (l.map a.eval) := by
  unfold opds at h
  induction l generalizing qs with
  | nil => simp at h; subst h; exact .nil _
  | cons x l ih =>
    simp only [List.mapM_cons, Option.pure_def, Option.bind_eq_bind, Option.bind_eq_some_iff, Option.some.injEq] at h
    obtain ⟨b, hb, bs, hbs, rfl⟩ := h
    exact .cons (opd_ok hb he) (ih hbs)

end
end Go.QAbs
