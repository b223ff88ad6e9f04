/- Slices of slices and strings, loads, stores. No condition. -/
import Derived.Test.YtmkjnglbfgajbaaQM
namespace Go.QAbs
set_option linter.unusedVariables false
set_option linter.unusedSimpArgs false
open Go.RowKit (Below)

section
variable {P : Program} {W0 : World} {B0 : Nat} {st st' : St} {ρ : Rho} {W : World} {e : Env} {a : Act}

theorem bytes_extract (s : List UInt8) (l h : Nat) : (ByteArray.mk s.toArray).extract l h = ⟨((s.drop l).take (h - l)).toArray⟩ := by
  apply ByteArray.ext
  rw [ByteArray.data_extract]
  apply Array.ext'
  simp [List.extract_eq_take_drop]

theorem slcSV_ok {C : Cx} {lo hi : Option AV} {x v : AV} (h : slcSV lo hi x = some v) {u : Value} (hx : R C x u) {p q : Option Value} (hp : OptR C lo p) (hq : OptR C hi q) {t : TypeId}
    (ht : P.underlying t = some .string) : ∃ z, (Instr.sliceAt t u p q none).run P W = .ok z W ∧ ∀ D, R D v z := by
  unfold slcSV at h
  split at h
  · rename_i s
    simp only [Option.bind_eq_some_iff, Option.some.injEq] at h
    obtain ⟨hh, hb, l, hl, rfl⟩ := h
    have := getStr hx; subst this
    obtain ⟨hrun, _, _⟩ := bounds_ok (P := P) (W := W) (isS := false) (cap := s.length) hb hl (Nat.le_refl _) hp hq
    refine ⟨_, ?_, fun _ => .str _⟩
    simp [Instr.sliceAt, Instr.slice, run_und ht, bytes_size, hrun, bytes_extract]
  · simp at h

theorem slcV_ok (hr : Rel W0 B0 st ρ W) {w : Nat} {lo hi : Option AV} {x v : AV} (h : slcV st w lo hi x = some v) {u : Value} (hx : R (cx st ρ W st.A.length) x u) {p q : Option Value}
    (hp : OptR (cx st ρ W st.A.length) lo p) (hq : OptR (cx st ρ W st.A.length) hi q) {t el : TypeId} (ht : P.underlying t = some (.slice el)) (hs : sz P el = some w) (hw0 : w ≠ 0) :
    ∃ z, (Instr.sliceAt t u p q none).run P W = .ok z W ∧ R (cx st ρ W st.A.length) v z := by
  have hrun : ∀ (b : Option Addr) (n c l h' : Nat), (Instr.sliceBounds true n c p q none).run P W = .ok (l, h', c) W →
      (Instr.sliceAt t (.slice b n c) p q none).run P W = .ok (.slice (if c = l then b else b.map (·.add (l * w))) (h' - l) (c - l)) W := by
    intro b n c l h' hb
    simp [Instr.sliceAt, Instr.slice, run_und ht, hb, run_sz hs]
  unfold slcV at h
  split at h
  · rename_i es
    simp only [Option.bind_eq_some_iff] at h
    obtain ⟨hh, hb, l, hl, h⟩ := h
    split at h
    · rename_i hsw
      simp only [Option.some.injEq] at h; subst h
      obtain ⟨a', c, rfl, hc, hcase⟩ := lit_inv hx
      obtain ⟨hbr, e1, e2⟩ := bounds_ok (P := P) (W := W) (isS := true) (cap := c) hb hl hc hp hq
      refine ⟨_, hrun _ _ _ _ _ hbr, ?_⟩
      have hlen : ((es.drop l).take (hh - l)).length = hh - l := by simp; omega
      suffices hsuf : R (cx st ρ W st.A.length) (.lit ((es.drop l).take (hh - l))) (.slice (if c = l then a' else a'.map (·.add (l * w))) ((es.drop l).take (hh - l)).length (c - l)) by rwa [hlen] at hsuf
      rcases hcase with rfl | ⟨b, o, w', xs, rfl, g1, g2⟩
      · simp only [List.drop_nil, List.take_nil, List.length_nil]; exact .lit0 _ _
      · refine lit_ok (c := c - l) (b := b) (o := o + l * w) (w := w) (xs := (List.range (hh - l)).map fun i => xs (l + i)) ?_ ?_ (by rw [hlen]; omega) ?_
        · refine ⟨by rw [hlen]; simp, fun i e y he hy => ?_⟩
          have hi := lt_of_get he
          rw [hlen] at hi
          rw [List.getElem?_take, if_pos hi, List.getElem?_drop] at he
          rw [List.getElem?_map, List.getElem?_range hi] at hy
          simp only [Option.map_some, Option.some.injEq] at hy
          subst hy
          exact g1 _ _ he
        · intro i y hy
          have hi := lt_of_get hy
          simp only [List.length_map, List.length_range] at hi
          rw [List.getElem?_map, List.getElem?_range hi] at hy
          simp only [Option.map_some, Option.some.injEq] at hy
          subst hy
          have hli : l + i < es.length := by omega
          obtain ⟨g3, g4⟩ := g2 (l + i) hli
          have hel := g1 (l + i) _ (List.getElem?_eq_getElem hli)
          have hwi : (es[l + i]).wide = some w := by
            have := List.all_eq_true.1 hsw _ (List.getElem_mem hli)
            simpa using this
          have := (hel.wide (pure_cx_ok _) hwi).1
          have hww : w' = w := by omega
          subst hww
          refine ⟨g3, ?_⟩
          rw [show o + l * w' + i * w' = o + (l + i) * w' by rw [Nat.add_mul]; omega]
          exact g4
        · intro hpos
          rw [hlen] at hpos
          rw [if_neg (by omega)]
          simp [add_mk]
    · simp at h
  · simp only [Option.bind_eq_some_iff, Option.some.injEq] at h
    obtain ⟨hh, hb, l, hl, rfl⟩ := h
    cases hx with
    | nils b =>
      obtain ⟨hbr, e1, e2⟩ := bounds_ok (P := P) (W := W) (isS := true) (cap := 0) hb hl (Nat.le_refl _) hp hq
      refine ⟨_, hrun _ _ _ _ _ hbr, ?_⟩
      have : hh = 0 := by omega
      have : l = 0 := by omega
      subst_vars
      exact .nils _
  · rename_i lv ix ver s n
    simp only [Option.bind_eq_some_iff] at h
    obtain ⟨hh, hb, l, hl, h⟩ := h
    split at h
    · rename_i hw
      simp only [Option.some.injEq] at h; subst h
      obtain ⟨es, hg⟩ := wIs_ok hw
      cases hx with
      | ref hpp =>
        obtain ⟨h1, h2, h3, a', c, rfl, h4⟩ := hpp
        obtain ⟨g1, g2, g3⟩ := h4 w es hg
        have hal := (hr.arr lv ix w ver es hg).len
        obtain ⟨hbr, e1, e2⟩ := bounds_ok (P := P) (W := W) (isS := true) (cap := c) hb hl (by omega) hp hq
        refine ⟨_, hrun _ _ _ _ _ hbr, .ref ⟨h1, h2, h3, _, _, rfl, fun w' es' hg' => ?_⟩⟩
        rw [hg] at hg'
        simp only [Option.some.injEq, Blk.arr.injEq] at hg'
        obtain ⟨rfl, _, rfl⟩ := hg'
        refine ⟨by omega, by omega, fun hlt => ?_⟩
        rw [if_neg (by omega), g3 (by omega)]
        simp [add_mk, Nat.add_mul, Nat.add_assoc]
    · simp at h
  · simp at h

/-! ### Loads -/

theorem loadVar_ok {C : Cx} (ok : C.Ok) {ev v : AV} {x : Value} (h : R C ev x) {t : TypeId} {agg : Bool} {b p o n : Nat} (ha : aggT P t = some agg) (hs : sz P t = some n)
    (hp : partOf ev agg o n = some v) (hl : Lies (cellP W) b p x) : ∃ z, (loadVar t ⟨b, p + o, none⟩).run P W = .ok z W ∧ R C v z := by
  rcases partOf_ok ok h hp with ⟨hg, hlen, hr⟩ | ⟨hg, y, hy, hr⟩
  · subst hg
    refine ⟨_, ?_, hr⟩
    have hl2 : ((x.cells.toList.drop o).take n).length = n := by
      have : x.cells.toList.length = x.cells.size := Array.length_toList
      simp only [List.length_take, List.length_drop]; omega
    have := run_loadCells_list (P := P) W ⟨b, p + o, none⟩ ((x.cells.toList.drop o).take n) (fun j v hv => by
      rw [add_mk]
      rw [List.getElem?_take] at hv
      split at hv
      · rw [List.getElem?_drop] at hv
        have := hl (o + j) v (by simpa using hv)
        rw [show p + o + j = p + (o + j) by omega]
        exact this
      · simp at hv)
    rw [hl2] at this
    simp [loadVar, run_agg ha, run_sz hs, this]
  · subst hg
    refine ⟨y, ?_, hr⟩
    have := hl o y hy
    unfold cellP at this
    simp [loadVar, run_agg ha, this]

theorem loadP_ok (hr : Rel W0 B0 st ρ W) {agg : Bool} {n : Nat} {x v : AV} (h : loadP st agg n x = some v) {u : Value} (hx : R (cx st ρ W st.A.length) x u) {t : TypeId} (ha : aggT P t = some agg) (hs : sz P t = some n) :
    ∃ b z, u = .pointer (some b) ∧ (loadVar t b).run P W = .ok z W ∧ R (cx st ρ W st.A.length) v z := by
  unfold loadP at h
  split at h
  · rename_i lv ix ver i o
    cases hx with
    | ptr hp =>
      obtain ⟨h1, h2, h3, h4, h5⟩ := hp
      unfold loadB at h
      split at h
      · rename_i w ver' es hg
        split at h
        · rename_i hv
          subst hv
          simp only [Option.bind_eq_some_iff] at h
          obtain ⟨el, he, hpt⟩ := h
          obtain ⟨x, g1, g2, g3⟩ := (hr.arr lv ix w ver es hg).el i el he
          have := h5 w es hg
          subst this
          have hle : (cx st ρ W lv).le (cx st ρ W st.A.length) :=
            ⟨fun _ _ _ h => h, fun _ _ _ _ _ _ h => ⟨by have := h.1; omega, h.2⟩, fun _ _ _ _ _ _ h => ⟨by have := h.1; omega, h.2⟩, fun _ _ _ h => ⟨by have := h.1; omega, h.2⟩⟩
          obtain ⟨z, hz, hrz⟩ := loadVar_ok (P := P) (W := W) (cx_ok st ρ W st.A.length) (g1.mono hle) ha hs hpt g3
          exact ⟨_, z, rfl, hz, hrz⟩
        · simp at h
      · simp at h
  · cases hx with
    | lptr hv hl =>
      have hl' : Lies (cellP W) _ _ _ := hl.mono (fun _ _ _ h => h.1)
      obtain ⟨z, hz, hrz⟩ := loadVar_ok (P := P) (W := W) (cx_ok st ρ W st.A.length) (hv.mono (Cx.pure_le _)) ha hs h hl'
      exact ⟨_, z, rfl, hz, hrz⟩
  · simp at h

theorem cx_lv {m m' : Nat} (h : m ≤ m') : (cx st ρ W m).le (cx st ρ W m') :=
  ⟨fun _ _ _ h => h, fun _ _ _ _ _ _ q => ⟨by have := q.1; omega, q.2⟩, fun _ _ _ _ _ _ q => ⟨by have := q.1; omega, q.2⟩, fun _ _ _ q => ⟨by have := q.1; omega, q.2⟩⟩

/-! ### Stores -/

theorem storeVar_run {t : TypeId} {n b o : Nat} {x : Value} (hs : sz P t = some n) (hn : x.cells.size = n) (h1 : ∀ y ∈ x.cells.toList, y.oneCell' = true)
    (hc : ∀ j, j < n → (W.cell? ⟨b, o + j, none⟩).isSome = true) (hf : ∀ j, j < n → W.frozen? ⟨b, o + j, none⟩ = false) :
    (storeVar t ⟨b, o, none⟩ x).run P W = .ok () (W.setCells b o x.cells.toList) := by
  have hl : x.cells.toList.length = n := by rw [Array.length_toList]; exact hn
  have := run_storeCells_cells (P := P) b o x.cells.toList 0 W (by simpa [hl] using hc) (by simpa [hl] using hf) h1
  simp only [Nat.add_zero] at this
  simp [storeVar, run_sz hs, hn, this]

theorem storeP_ok (hr : Rel W0 B0 st ρ W) {n : Nat} {x p : AV} (h : storeP st n x p = some st') {u q : Value} (hx : R (cx st ρ W st.A.length) x u) (hp : R (cx st ρ W st.A.length) p q) {t : TypeId}
    (hs : sz P t = some n) : ∃ b W', q = .pointer (some b) ∧ (storeVar t b u).run P W = .ok () W' ∧ Goes W0 B0 st ρ W st' ρ W' := by
  unfold storeP at h
  split at h
  · rename_i lv ix ver i o
    simp only [Option.bind_eq_some_iff] at h
    obtain ⟨⟨x', st1⟩, hseal, hk⟩ := h
    cases hp with
    | ptr hp =>
      obtain ⟨h1, h2, h3, h4, h5⟩ := hp
      obtain ⟨g1, r1⟩ := sealV_ok deep (lv + 1) st x u x' st1 hr (by omega) hx hseal
      have hptr := (g1.ev.le st.A.length (Nat.le_refl _)).ptr lv ix ver i o q ⟨h1, h2, h3, h4, h5⟩
      obtain ⟨_, k2, _, k4, k5⟩ := hptr
      unfold storeK storeB at hk
      split at hk
      · rename_i w ver' es hg
        split at hk
        · rename_i hv
          subst hv
          simp only [Option.bind_eq_some_iff] at hk
          obtain ⟨el, he, e', hset, hput⟩ := hk
          have hq := k5 w es hg
          subst hq
          have aok := g1.rel.arr lv ix w ver es hg
          obtain ⟨y, y1, y2, y3⟩ := aok.el i el he
          have hi := lt_of_get he
          have hlc : (i + 1) * w ≤ (ρ lv ix).c * w := Nat.mul_le_mul_right w (by have := aok.len; omega)
          rw [Nat.add_mul, Nat.one_mul] at hlc
          have r1' : R (cx st1 ρ W lv) x' u := r1
          unfold elemSet at hset
          split at hset
          · rename_i hwide
            obtain ⟨wn, w1⟩ := r1'.wide (cx_ok _ _ _ _) hwide
            have hn : u.cells.toList.length = n := by rw [Array.length_toList]; exact wn
            have hon : o + n ≤ w := by
              split at hset
              · rename_i hc; omega
              · split at hset
                · simp at hset
                · split at hset
                  · rename_i hc; exact hc.2
                  · simp at hset
            refine ⟨_, _, rfl, storeVar_run (P := P) (W := W) (b := (ρ lv ix).b) (o := (ρ lv ix).o + i * w + o) hs wn w1 ?_ ?_, ?_⟩
            · intro j hj
              have := (aok.mem (i * w + o + j) (by omega)).2.1
              rwa [show (ρ lv ix).o + (i * w + o + j) = (ρ lv ix).o + i * w + o + j by omega] at this
            · intro j hj
              have := (aok.mem (i * w + o + j) (by omega)).2.2
              rwa [show (ρ lv ix).o + (i * w + o + j) = (ρ lv ix).o + i * w + o + j by omega] at this
            · rw [show (ρ lv ix).o + i * w + o = (ρ lv ix).o + (i * w + o) by omega]
              refine g1.trans (write_blk g1.rel hg hput (by simp) (by omega) ?_)
              intro k ek hk
              rw [List.getElem?_set] at hk
              by_cases hik : i = k
              · subst hik
                rw [if_pos rfl, if_pos hi] at hk
                simp only [Option.some.injEq] at hk; subst hk
                refine .inr ?_
                split at hset
                · rename_i hc
                  obtain ⟨rfl, rfl⟩ := hc
                  simp only [Option.some.injEq] at hset; subst hset
                  refine ⟨u, r1', wn, fun j v hv => .inl ⟨by omega, ?_⟩⟩
                  rw [show i * n + j - (i * n + 0) = j by omega]
                  simpa using hv
                · split at hset
                  · simp at hset
                  · rename_i hany
                    split at hset
                    · rename_i hc
                      simp only [Option.some.injEq] at hset; subst hset
                      have cy := y1.cells (cx_ok _ _ _ _) (by simpa using hany)
                      have cu := r1'.cells (cx_ok _ _ _ _) (wide_any hwide)
                      have hcl : x'.cells.length = n := by rw [cu.1]; exact hn
                      refine ⟨.agg (y.cells.toList.take o ++ u.cells.toList ++ y.cells.toList.drop (o + n)).toArray, ?_, ?_, ?_⟩
                      · unfold splice
                        rw [hcl]
                        exact .agg' (((cy.take o).append cu).append (cy.drop (o + n)))
                      · have hyl : y.cells.toList.length = w := by rw [Array.length_toList]; exact y2
                        show ((y.cells.toList.take o ++ u.cells.toList ++ y.cells.toList.drop (o + n)).toArray).size = w
                        rw [List.size_toArray, List.length_append, List.length_append, List.length_take, List.length_drop, hn, hyl]
                        omega
                      · intro j v hv
                        have hyl : y.cells.toList.length = w := by rw [Array.length_toList]; exact y2
                        have hv : (y.cells.toList.take o ++ u.cells.toList ++ y.cells.toList.drop (o + n))[j]? = some v := by
                          have h0 : (Value.agg (y.cells.toList.take o ++ u.cells.toList ++ y.cells.toList.drop (o + n)).toArray).cells = (y.cells.toList.take o ++ u.cells.toList ++ y.cells.toList.drop (o + n)).toArray := rfl
                          rw [h0, List.getElem?_toArray] at hv
                          exact hv
                        have hjw := lt_of_get hv
                        rw [List.length_append, List.length_append, List.length_take, List.length_drop, hn, hyl] at hjw
                        have htk : (y.cells.toList.take o).length = o := by rw [List.length_take, hyl]; omega
                        by_cases c1 : j < o
                        · rw [List.append_assoc, List.getElem?_append_left (by rw [htk]; exact c1), List.getElem?_take, if_pos c1] at hv
                          refine .inr ⟨.inl (by omega), ?_⟩
                          have := y3 j v (by simpa using hv)
                          rwa [show (ρ lv ix).o + i * w + j = (ρ lv ix).o + (i * w + j) by omega] at this
                        · by_cases c2 : j < o + n
                          · rw [List.append_assoc, List.getElem?_append_right (by rw [htk]; omega), List.getElem?_append_left (by rw [htk, hn]; omega)] at hv
                            refine .inl ⟨by omega, ?_⟩
                            rw [show i * w + j - (i * w + o) = j - (y.cells.toList.take o).length by rw [htk]; omega]
                            exact hv
                          · rw [List.getElem?_append_right (by rw [List.length_append, htk, hn]; omega), List.getElem?_drop] at hv
                            refine .inr ⟨.inr (by omega), ?_⟩
                            have hj2 : o + n + (j - (y.cells.toList.take o ++ u.cells.toList).length) = j := by rw [List.length_append, htk, hn]; omega
                            rw [hj2] at hv
                            have := y3 j v (by simpa using hv)
                            rwa [show (ρ lv ix).o + i * w + j = (ρ lv ix).o + (i * w + j) by omega] at this
                    · simp at hset
              · rw [if_neg hik] at hk
                refine .inl ⟨hk, ?_⟩
                rcases Nat.lt_or_gt_of_ne hik with hlt | hgt
                · right
                  have : (i + 1) * w ≤ k * w := Nat.mul_le_mul_right w hlt
                  rw [Nat.add_mul, Nat.one_mul] at this; omega
                · left
                  have : (k + 1) * w ≤ i * w := Nat.mul_le_mul_right w hgt
                  rw [Nat.add_mul, Nat.one_mul] at this; omega
          · simp at hset
        · simp at hk
      · simp at hk
  · simp at h

end
end Go.QAbs
