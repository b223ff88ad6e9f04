/- What only reads, reads the same in a store that holds more. No condition. -/
import Derived.Test.YtmkjnglbfgajbaaQP1
namespace Go.QAbs
set_option linter.unusedVariables false
set_option linter.unusedSimpArgs false

/-- The second store holds all that the first holds. -/
def More (s t : St) : Prop := ∀ lv ix b, s.get lv ix = some b → t.get lv ix = some b

theorem More.mask (st : St) : More st.mask st := by
  intro lv ix b h
  unfold St.mask St.get at h
  unfold St.get
  simp only [List.length_map, List.getElem?_map] at h
  split at h
  · rename_i h1; rw [if_pos h1]; exact h
  · rename_i h1
    simp only [Option.bind_eq_some_iff, Option.map_eq_some_iff] at h
    obtain ⟨r, ⟨r0, _, rfl⟩, h⟩ := h
    simp [vis] at h

theorem More.blank (st : St) : More .blank st := by
  intro lv ix b h
  unfold St.blank St.get at h
  split at h <;> simp [vis] at h

theorem hideL_get (P : Nat → Bool) : ∀ (L : List Blk) (i k : Nat), (hideL P k L)[i]? = (L[i]?).map fun b => if P (k + i) = true then .hole 0 else b
  | [], i, k => by simp [hideL]
  | b :: L, 0, k => by simp [hideL]
  | b :: L, i + 1, k => by
    simp only [hideL, List.getElem?_cons_succ, hideL_get P L i (k + 1)]
    rw [show k + 1 + i = k + (i + 1) by omega]

theorem hideA_get (P : Nat → Nat → Bool) : ∀ (A : List (Bool × List Blk)) (i k : Nat), (hideA P k A)[i]? = (A[i]?).map fun r => (r.1, hideL (P (k + i)) 0 r.2)
  | [], i, k => by simp [hideA]
  | b :: L, 0, k => by simp [hideA]
  | b :: L, i + 1, k => by
    simp only [hideA, List.getElem?_cons_succ, hideA_get P L i (k + 1)]
    rw [show k + 1 + i = k + (i + 1) by omega]

theorem hideA_length (P : Nat → Nat → Bool) : ∀ (A : List (Bool × List Blk)) (k : Nat), (hideA P k A).length = A.length
  | [], k => rfl
  | b :: L, k => by simp only [hideA, List.length_cons, hideA_length P L (k + 1)]

theorem vis_hide (c : Bool) (o : Option Blk) : vis (o.map fun b => if c = true then .hole 0 else b) = if c = true then none else vis o := by
  cases o with
  | none => cases c <;> rfl
  | some b => cases c <;> simp [vis]

theorem hide_get (P : Nat → Nat → Bool) (st : St) (lv ix : Nat) : (st.hide P).get lv ix = if P lv ix = true then none else st.get lv ix := by
  unfold St.hide St.get
  simp only [hideA_length]
  by_cases h : lv = st.A.length
  · subst h
    simp only [if_true, hideL_get, Nat.zero_add]
    rw [← vis_hide]
  · simp only [if_neg h, hideA_get, Nat.zero_add]
    cases hA : st.A[lv]? with
    | none => simp
    | some r => simp only [Option.map_some, Option.bind_some, hideL_get, Nat.zero_add]; rw [← vis_hide]

theorem More.hide (P : Nat → Nat → Bool) (st : St) : More (st.hide P) st := by
  intro lv ix b h
  rw [hide_get] at h
  split at h
  · simp at h
  · exact h

section
variable {s t : St} {e : Env}

theorem More.bind {α : Type} {lv ix : Nat} {f : Option Blk → Option α} (m : More s t) (h0 : f none = none) {v : α} (h : f (s.get lv ix) = some v) : f (t.get lv ix) = some v := by
  cases hb : s.get lv ix with
  | none => rw [hb, h0] at h; simp at h
  | some b => rw [m _ _ _ hb, ← hb]; exact h

theorem More.wIs {lv ix w ver : Nat} (m : More s t) (h : wIs w ver (s.get lv ix) = true) : wIs w ver (t.get lv ix) = true := by
  cases hb : s.get lv ix with
  | none => rw [hb] at h; simp [QAbs.wIs] at h
  | some b => rw [m _ _ _ hb, ← hb]; exact h

theorem More.elems {x : AV} {l : List AV} (m : More s t) (h : elems s x = some l) : elems t x = some l := by
  unfold QAbs.elems at *
  split at h <;> first | exact h | exact m.bind (f := refB _ _ _) rfl h

theorem More.loadP {g : Bool} {n : Nat} {x v : AV} (m : More s t) (h : loadP s g n x = some v) : loadP t g n x = some v := by
  unfold QAbs.loadP at *
  split at h <;> first | exact h | exact m.bind (f := loadB _ _ _ _ _) rfl h

theorem More.slcV {w : Nat} {lo hi : Option AV} {x v : AV} (m : More s t) (h : slcV s w lo hi x = some v) : slcV t w lo hi x = some v := by
  unfold QAbs.slcV at *
  split at h
  · exact h
  · exact h
  · simp only [Option.bind_eq_some_iff] at h ⊢
    obtain ⟨a, ha, b, hb, h⟩ := h
    refine ⟨a, ha, b, hb, ?_⟩
    split at h
    · rename_i hw; rw [if_pos (m.wIs hw)]; exact h
    · simp at h
  · exact h

theorem More.ixSV {w : Nat} {i x v : AV} (m : More s t) (h : ixSV s w i x = some v) : ixSV t w i x = some v := by
  unfold QAbs.ixSV at *
  split at h
  · exact h
  · simp only [Option.bind_eq_some_iff] at h ⊢
    obtain ⟨a, ha, h⟩ := h
    refine ⟨a, ha, ?_⟩
    split at h
    · rename_i hw; rw [if_pos (m.wIs hw)]; exact h
    · simp at h
  · exact h

theorem More.lookV {kk : Nat} {z : AV} {ok : Bool} {k x v : AV} (m : More s t) (h : lookV s kk z ok k x = some v) : lookV t kk z ok k x = some v := by
  unfold QAbs.lookV at *
  simp only [Option.bind_eq_some_iff] at h ⊢
  obtain ⟨es, hes, h⟩ := h
  refine ⟨es, ?_, h⟩
  unfold mapOf at *
  split at hes <;> first | exact hes | exact m.bind (f := mapB) rfl hes

theorem More.lenOf {k : Nat} {x : AV} {v : Nat} (m : More s t) (h : lenOf s k x = some v) : lenOf t k x = some v := by
  unfold QAbs.lenOf at *
  split at h <;> first | exact h | exact m.bind (f := mapLen) rfl h

theorem More.b2sV {x v : AV} (m : More s t) (h : b2sV s x = some v) : b2sV t x = some v := by
  unfold QAbs.b2sV at *
  split at h
  · exact h
  · simp only [Option.bind_eq_some_iff] at h ⊢
    obtain ⟨es, hes, h⟩ := h
    exact ⟨es, m.elems hes, h⟩

theorem ret1_at {q q' : Option AV} {v : AV} {s' : St} (h : q.bind (ret1 s) = some (v, s')) (k : ∀ v0, q = some v0 → q' = some v0) : q'.bind (ret1 t) = some (v, t) ∧ s' = s := by
  simp only [Option.bind_eq_some_iff] at h
  obtain ⟨v0, h0, h1⟩ := h
  obtain ⟨rfl, rfl⟩ := ret1_inv h1
  exact ⟨by rw [k _ h0]; rfl, rfl⟩

/-- What only reads answers alike in a store that holds more, and changes nothing. -/
theorem reads_mono {o : PO} (ho : o.reads = true) (m : More s t) {v : AV} {s' : St} (h : evalPO e s o = some (v, s')) : evalPO e t o = some (v, t) ∧ s' = s := by
  cases o <;> simp only [PO.reads, Bool.false_eq_true] at ho <;> simp only [evalPO] at h ⊢
  case mv => simp at h; simp [h]
  case build =>
    simp only [Option.bind_eq_some_iff, Option.some.injEq, Prod.mk.injEq] at h ⊢
    obtain ⟨cs, h0, rfl, rfl⟩ := h
    exact ⟨⟨cs, h0, rfl, trivial⟩, rfl⟩
  case eqs =>
    simp only [Option.bind_eq_some_iff, Option.some.injEq, Prod.mk.injEq] at h ⊢
    obtain ⟨cs, h0, rfl, rfl⟩ := h
    exact ⟨⟨cs, h0, rfl, trivial⟩, rfl⟩
  case mkf => simp at h; simp [h]
  case len =>
    simp only [Option.bind_eq_some_iff, Option.some.injEq, Prod.mk.injEq] at h ⊢
    obtain ⟨n, h0, rfl, rfl⟩ := h
    exact ⟨⟨n, m.lenOf h0, rfl, trivial⟩, rfl⟩
  case ld => exact ret1_at h fun _ q => m.loadP q
  case slc => exact ret1_at h fun _ q => m.slcV q
  case ixS => exact ret1_at h fun _ q => m.ixSV q
  case look => exact ret1_at h fun _ q => m.lookV q
  case b2s => exact ret1_at h fun _ q => m.b2sV q
  all_goals exact ret1_at h fun _ q => q

end
end Go.QAbs
