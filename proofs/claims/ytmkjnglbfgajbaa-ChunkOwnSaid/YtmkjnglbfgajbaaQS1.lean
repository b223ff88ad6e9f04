/- Library functions with a known contract: strings.Join. Each is turned from a contract in the model to an entry of the table. No condition. -/
import Derived.Test.YtmkjnglbfgajbaaQP9
namespace Go.QAbs
set_option linter.unusedVariables false
set_option linter.unusedSimpArgs false
open Go.RowKit (Below)

section
variable {P : Program} {W0 : World} {B0 : Nat} {st : St} {ρ : Rho} {W W' : World}

def strsOf : List AV → Option (List (List UInt8))
  | [] => some []
  | .str s :: vs => (strsOf vs).map (s :: ·)
  | _ :: _ => none

def elemsS (st : St) : AV → Option (List AV)
  | .str _ => none
  | v => elems st v

theorem elemsS_of {st : St} {v : AV} {es : List AV} (h : elemsS st v = some es) : elems st v = some es ∧ ∀ t, elems t v = some es → elemsS t v = some es := by
  cases v with
  | str s => simp [elemsS] at h
  | _ => exact ⟨h, fun t q => q⟩

theorem strsOf_ok : ∀ {es : List AV} {ss : List (List UInt8)}, strsOf es = some ss → es = ss.map .str
  | [], ss, h => by simp only [strsOf, Option.some.injEq] at h; subst h; rfl
  | v :: vs, ss, h => by
    cases v <;> simp only [strsOf, Option.map_eq_some_iff, reduceCtorEq] at h
    obtain ⟨r, hr, rfl⟩ := h
    rw [strsOf_ok hr]; rfl

/-- The strings that a slice holds lie in memory. -/
theorem strs_at (hr : Rel W0 B0 st ρ W) {v : AV} {es : List AV} {ss : List (List UInt8)} (he : elemsS st v = some es) (hs : strsOf es = some ss) {x : Value} (hx : R (cx st ρ W st.A.length) v x) :
    ∃ a c, x = .slice a ss.length c ∧ (ss = [] ∨ ∃ b o, a = some ⟨b, o, none⟩ ∧ ss.length ≤ c ∧ ∀ (j : Nat) (s : List UInt8), ss[j]? = some s → cellP W b (o + j) (.string ⟨s.toArray⟩)) := by
  have hes := strsOf_ok hs
  have hone : ∀ (s : List UInt8), (Value.string ⟨s.toArray⟩).cells.size = 1 := fun _ => rfl
  cases v with
  | str s => simp [elemsS] at he
  | nils =>
    simp only [elemsS, elems, Option.some.injEq] at he
    subst he
    simp only [strsOf, Option.some.injEq] at hs; subst hs
    cases hx with
    | nils a => exact ⟨a, 0, rfl, .inl rfl⟩
  | lit es' =>
    simp only [elemsS, elems, Option.some.injEq] at he
    subst he
    obtain ⟨a, c, rfl, hc, h⟩ := lit_inv hx
    have hlen : es'.length = ss.length := by rw [hes]; simp
    refine ⟨a, c, by rw [hlen], ?_⟩
    rcases h with h | ⟨b, o, w, xs, rfl, h1, h2⟩
    · left; rw [h] at hlen; exact List.length_eq_zero_iff.1 hlen.symm
    · right
      refine ⟨b, o, rfl, by omega, fun j s hj => ?_⟩
      have hlt := lt_of_get hj
      have hje : es'[j]? = some (.str s) := by rw [hes, List.getElem?_map, hj]; rfl
      have hv := getStr (h1 j _ hje)
      obtain ⟨hw, hl⟩ := h2 j (by omega)
      rw [hv] at hw hl
      rw [hone] at hw; subst hw
      have := hl 0 (.string ⟨s.toArray⟩) rfl
      rw [Nat.mul_one, Nat.add_zero] at this
      exact this.1
  | ref lv ix ver s n =>
    simp only [elemsS, elems] at he
    unfold refB at he
    split at he
    · rename_i w ver' es0 hg
      split at he
      · rename_i hc
        obtain ⟨rfl, hsn⟩ := hc
        simp only [Option.some.injEq] at he
        cases hx with
        | ref hp =>
          obtain ⟨_, _, _, a, c, rfl, hp⟩ := hp
          obtain ⟨p1, p2, p3⟩ := hp w es0 hg
          have hlen : ss.length = n := by
            have : es.length = ss.length := by rw [hes]; simp
            rw [← this, ← he]; simp; omega
          refine ⟨a, c, by rw [hlen], ?_⟩
          by_cases hn : n = 0
          · left; exact List.length_eq_zero_iff.1 (by omega)
          · right
            have ho := hr.arr lv ix w ver es0 hg
            have hle := ho.len
            have hw1 : w = 1 := by
              have h0 : (0 : Nat) < ss.length := by omega
              have hj0 : es[0]? = some (.str ss[0]) := by rw [hes, List.getElem?_map, List.getElem?_eq_getElem h0]; rfl
              rw [← he, List.getElem?_take, if_pos (by omega), List.getElem?_drop] at hj0
              obtain ⟨y, q1, q2, _⟩ := ho.el _ _ hj0
              rw [getStr q1, hone] at q2
              exact q2.symm
            subst hw1
            refine ⟨(ρ lv ix).b, (ρ lv ix).o + s * 1, p3 (by omega), by omega, fun j t hj => ?_⟩
            have hlt := lt_of_get hj
            have hje : es[j]? = some (.str t) := by rw [hes, List.getElem?_map, hj]; rfl
            rw [← he, List.getElem?_take, if_pos (by omega), List.getElem?_drop] at hje
            obtain ⟨y, q1, q2, q3⟩ := ho.el _ _ hje
            rw [getStr q1] at q3
            have := q3 0 (.string ⟨t.toArray⟩) rfl
            rw [show (ρ lv ix).o + s * 1 + j = (ρ lv ix).o + (s + j) * 1 + 0 by omega]
            exact this
      · simp at he
    · simp at he
  | _ => simp [elemsS, elems] at he

/-- strings.Join. -/
def joinO : List AV → St → Option (AV × St)
  | [v, .str sep], st => (elemsS st v).bind fun es => (strsOf es).bind fun ss =>
    if ss.length ≤ 140737488355328 ∧ (sep.intercalate ss).length ≤ 140737488355328 then some (.str (sep.intercalate ss), st) else none
  | _, _ => none

theorem join_ok {f : FuncId}
    (h0 : ∀ (a : Option Addr) (c : Nat) (sep : ByteArray) (w : World), Calls P f #[.slice a 0 c, .string sep] w fun e w' => e = .returned (.string ⟨#[]⟩) ∧ w' = w)
    (h1 : ∀ (bk o c : Nat) (xs : List ByteArray) (sep : ByteArray) (w : World), (∀ (j : Nat) x, xs[j]? = some x → w.cell? ⟨bk, o + j, none⟩ = some (.string x)) → bk < w.heap.size → xs.length ≤ 140737488355328 → xs.length ≤ c →
      (sep.data.toList.intercalate (xs.map (·.data.toList))).length ≤ 140737488355328 →
      Calls P f #[.slice (some ⟨bk, o, none⟩) xs.length c, .string sep] w fun e w' => e = .returned (.string ⟨(sep.data.toList.intercalate (xs.map (·.data.toList))).toArray⟩) ∧ Below w.heap.size w w') :
    EntOk P f (.base joinO) := by
  refine ⟨fun args st r hr => ?_, ?_⟩
  · unfold joinO at hr ⊢
    simp only at hr ⊢
    split at hr
    · rename_i v0 sep
      simp only [Option.bind_eq_some_iff] at hr
      obtain ⟨es, he, ss, hs, h⟩ := hr
      split at h
      · rename_i hb
        simp only [Option.some.injEq] at h; subst h
        refine ⟨rfl, fun M i B hh => ?_⟩
        have he' : elemsS (st.fillA M i B) v0 = some es := by
          obtain ⟨k1, k2⟩ := elemsS_of he
          exact k2 _ ((fill_more hh).elems k1)
        simp only [he', hs, Option.bind_some, if_pos hb]
      · simp at h
    · simp at hr
  intro args st v st' h W0 B0 ρ W xs hr hx
  unfold joinO at h
  split at h
  · rename_i v0 sep
    simp only [Option.bind_eq_some_iff] at h
    obtain ⟨es, he, ss, hs, h⟩ := h
    split at h
    · rename_i hb
      simp only [Option.some.injEq, Prod.mk.injEq] at h
      obtain ⟨rfl, rfl⟩ := h
      obtain ⟨x, ys, rfl, hx1, hx2⟩ := hx.cons_inv
      obtain ⟨y, zs, rfl, hy1, hy2⟩ := hx2.cons_inv
      obtain rfl := hy2.nil_inv
      have hy := getStr hy1; subst hy
      obtain ⟨a, c, rfl, hat⟩ := strs_at hr he hs hx1
      rcases hat with rfl | ⟨b, o, rfl, hc, hcell⟩
      · refine (h0 a c ⟨sep.toArray⟩ W).mono ?_
        rintro e' W' ⟨rfl, rfl⟩
        refine ⟨_, ρ, rfl, .refl hr, ?_⟩
        have : sep.intercalate ([] : List (List UInt8)) = [] := rfl
        rw [this]; exact .str []
      · have e1 : (ss.map fun s => ByteArray.mk s.toArray).map (·.data.toList) = ss := by
          rw [List.map_map]; simp [Function.comp_def]
        by_cases hss : ss = []
        · subst hss
          refine (h0 _ c ⟨sep.toArray⟩ W).mono ?_
          rintro e' W' ⟨rfl, rfl⟩
          refine ⟨_, ρ, rfl, .refl hr, ?_⟩
          have : sep.intercalate ([] : List (List UInt8)) = [] := rfl
          rw [this]; exact .str []
        · have hpos := List.length_pos_iff.2 hss
          have hcell0 := hcell 0 ss[0] (List.getElem?_eq_getElem hpos)
          have := h1 b o c (ss.map fun s => ByteArray.mk s.toArray) ⟨sep.toArray⟩ W ?_ (cell_lt hcell0) (by simpa using hb.1) (by simpa using hc) (by rw [e1]; exact hb.2)
          · rw [List.length_map] at this
            refine this.mono ?_
            rintro e' W' ⟨rfl, hbel⟩
            have gq := quiet hr hbel
            refine ⟨_, ρ, rfl, gq, ?_⟩
            rw [e1]; exact .str _
          · intro j x hj
            rw [List.getElem?_map, Option.map_eq_some_iff] at hj
            obtain ⟨s, hs', rfl⟩ := hj
            exact hcell j s hs'
    · simp at h
  · simp at h

end
end Go.QAbs
