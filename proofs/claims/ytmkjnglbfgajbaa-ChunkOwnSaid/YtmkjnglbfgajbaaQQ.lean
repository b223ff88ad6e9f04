/- New variables, literals, make, append, strings of bytes. No condition. -/
import Derived.Test.YtmkjnglbfgajbaaQO
namespace Go.QAbs
set_option linter.unusedVariables false
set_option linter.unusedSimpArgs false
open Go.RowKit (Below)

section
variable {P : Program} {W0 : World} {B0 : Nat} {st st' : St} {ρ : Rho} {W : World} {e : Env} {a : Act}

theorem laid_one {x : Value} {w : Nat} (h : x.cells.size = w) : Laid x.cells w [x] := by
  refine ⟨fun y hy => by simp only [List.mem_singleton] at hy; subst hy; exact h, fun i y hy j v hv => ?_⟩
  cases i with
  | zero => simp only [List.getElem?_cons_zero, Option.some.injEq] at hy; subst hy; simpa using hv
  | succ i => simp at hy

/-- A new variable that holds a value. -/
theorem box_ok (hr : Rel W0 B0 st ρ W) {v : AV} {x : Value} {w i : Nat} {t : TypeId} (hv : R (cx st ρ W st.A.length) v x) (hw : v.wide = some w) (hn : News st (.arr w 0 [v]) i st') :
    ∃ ρ' W', (newVar t x).run P W = .ok ⟨W.heap.size, 0, none⟩ W' ∧ Goes W0 B0 st ρ W st' ρ' W' ∧ R (cx st' ρ' W' st'.A.length) (.ptr st.A.length i 0 0 0) (.pointer (some ⟨W.heap.size, 0, none⟩)) := by
  have hx := (hv.wide (cx_ok _ _ _ _) hw).1
  have hla := laid_one hx
  obtain ⟨g, hg⟩ := new_arr (elem := t) hr hn (.cons hv (.nil _)) hla.1 (c := 1) (by simp) (by omega) hla.2
  refine ⟨_, _, ?_, g, ?_⟩
  · simp [newVar, newRow]
  · have hlen := g.ev.len
    have := (hg st'.A.length (by omega)).2 0 0
    simp only [Nat.zero_mul, Nat.zero_add] at this
    exact .ptr this

/-- A new variable that holds an owned nil slice. -/
theorem boxnil_ok (hr : Rel W0 B0 st ρ W) {w i j : Nat} {st1 : St} {t : TypeId} (hn : st.new (.arr w 0 []) = some (i, st1)) (hn2 : st1.new (.arr 1 0 [.ref st.A.length i 0 0 0]) = some (j, st')) :
    ∃ ρ' W', (newVar t (.slice none 0 0)).run P W = .ok ⟨W.heap.size, 0, none⟩ W' ∧ Goes W0 B0 st ρ W st' ρ' W' ∧ R (cx st' ρ' W' st'.A.length) (.ptr st.A.length j 0 0 0) (.pointer (some ⟨W.heap.size, 0, none⟩)) := by
  obtain ⟨g1, h1⟩ := new_nil hr (.of_new hn) none
  have hlen := g1.ev.len
  have hv : R (cx st1 (upd ρ st.A.length i ⟨0, 0, 0⟩) W st1.A.length) (.ref st.A.length i 0 0 0) (.slice none 0 0) := .ref (h1 _ (by omega))
  obtain ⟨ρ', W', e1, g2, r2⟩ := box_ok (P := P) (t := t) g1.rel hv rfl (.of_new hn2)
  rw [hlen] at r2
  exact ⟨ρ', W', e1, g1.trans g2, r2⟩

theorem partsV_len (e : Env) (l : List (Nat × Nat × Opd)) : (partsV e l).length = l.length := by induction l with | nil => rfl | cons p ps ih => simp [partsV, ih]
theorem partsV_get (e : Env) : ∀ {l : List (Nat × Nat × Opd)} {i : Nat} {q : Nat × Nat × AV}, (partsV e l)[i]? = some q → ∃ p, l[i]? = some p ∧ q = (p.1, p.2.1, p.2.2.get e)
  | [], i, q, h => by simp [partsV] at h
  | p :: ps, 0, q, h => by simp only [partsV, List.getElem?_cons_zero, Option.some.injEq] at h; exact ⟨p, rfl, h.symm⟩
  | p :: ps, i + 1, q, h => by
    simp only [partsV, List.getElem?_cons_succ] at h ⊢
    exact partsV_get e h
theorem partsE_len (e : Env) (l : List (Nat × Opd)) : (partsE e l).length = l.length := by induction l with | nil => rfl | cons p ps ih => simp [partsE, ih]
theorem partsE_get (e : Env) : ∀ {l : List (Nat × Opd)} {i : Nat} {q : Nat × AV}, (partsE e l)[i]? = some q → ∃ p, l[i]? = some p ∧ q = (p.1, p.2.get e)
  | [], i, q, h => by simp [partsE] at h
  | p :: ps, 0, q, h => by simp only [partsE, List.getElem?_cons_zero, Option.some.injEq] at h; exact ⟨p, rfl, h.symm⟩
  | p :: ps, i + 1, q, h => by
    simp only [partsE, List.getElem?_cons_succ] at h ⊢
    exact partsE_get e h

theorem mapM_places {fs : List Field} {ps : List (Nat × Nat)} (h : places P fs = some ps) :
    (fs.mapM (fun f => (do pure (f.offset, ← sizeOf f.type) : Sem (Nat × Nat)))).run P W = .ok ps W := by
  unfold places at h
  induction fs generalizing ps with
  | nil => simp at h; subst h; simp
  | cons f fs ih =>
    simp only [List.mapM_cons, Option.pure_def, Option.bind_eq_bind, Option.bind_eq_some_iff, Option.map_eq_some_iff, Option.some.injEq] at h
    obtain ⟨p, ⟨n, hn, rfl⟩, qs, hqs, rfl⟩ := h
    simp only [List.mapM_cons, Sem.run_bind, run_sz hn, Result.andThen_ok, Sem.run_pure, ih hqs]

/-- A struct or an array of its parts. -/
theorem build_ok {C : Cx} (ok : C.Ok) {t : TypeId} {z : AV} {cs : List AV} {parts : Array (Nat × Operand)} {l : List (Nat × Nat × Opd)} (hz : zeroC P t = some z)
    (he : EnvR C e a.tmps) (hf : fillV z.cells (partsV e l) = some cs) {place : Nat → Option (Nat × Nat)}
    (hpl : l.length = parts.toList.length ∧ ∀ (i : Nat) (q : Nat × Nat × Opd) (p : Nat × Operand), l[i]? = some q → parts.toList[i]? = some p → place p.1 = some (q.1, q.2.1) ∧ opd p.2 = some q.2.2)
    (hrun : ∀ zv : Value, (zeroValue t).run P W = .ok zv W → ∀ cs', Instr.fill place zv.cells (parts.map fun (i, x) => (i, a.eval x)).toList = some cs' →
      (Instr.build t (parts.map fun (i, x) => (i, a.eval x))).run P W = .ok (.agg cs') W) :
    ∃ x, (Instr.build t (parts.map fun (i, x) => (i, a.eval x))).run P W = .ok x W ∧ R C (.agg cs) x := by
  obtain ⟨zv, hzr, hzc, _⟩ := run_zero (W := W) hz
  have hzany : z.isAny = false := by
    cases z <;> first | rfl | skip
    rename_i h
    unfold zeroC at hz
    cases hi : P.info? t with
    | none => rw [hi] at hz; simp at hz
    | some i =>
      rw [hi] at hz; simp only [Option.bind_some] at hz
      cases hzz : i.zero with
      | none => rw [hzz] at hz; simp at hz
      | some v =>
        rw [hzz] at hz; simp only [Option.bind_some] at hz
        unfold ofConst ofCell at hz
        split at hz <;> first | (simp at hz; done) | skip
        all_goals (split at hz <;> simp at hz)
  have hcells := (hzc C).cells ok hzany
  obtain ⟨cs', hfill, hr'⟩ := fillV_ok ok place (ps := (parts.map fun (i, x) => (i, a.eval x)).toList) hf hcells (by rw [partsV_len, hpl.1]; simp) (by
    intro i p q hp hq
    obtain ⟨o, ho, rfl⟩ := partsV_get e hp
    rw [Array.toList_map, List.getElem?_map] at hq
    cases hpp : parts.toList[i]? with
    | none => rw [hpp] at hq; simp at hq
    | some pp =>
      rw [hpp] at hq
      simp only [Option.map_some, Option.some.injEq] at hq
      subst hq
      obtain ⟨k1, k2⟩ := hpl.2 i o pp ho hpp
      exact ⟨k1, opd_ok k2 he⟩)
  exact ⟨_, hrun zv hzr cs' hfill, .agg' hr'⟩

/-! ### The elements of a slice or of a string -/

theorem bytesAV_RL (C : Cx) (l : List UInt8) : RL C (bytesAV l) (l.map fun b => Value.int .u8 b.toNat) := by
  induction l with
  | nil => exact .nil _
  | cons b l ih => exact .cons (.int _ _) ih

theorem flatC_bytes (l : List UInt8) : flatC (l.map fun b => Value.int .u8 b.toNat) = l.map fun b => Value.int .u8 b.toNat := by
  induction l with
  | nil => rfl
  | cons b l ih => simp only [flatC, List.map_cons, List.flatMap_cons] at ih ⊢; rw [ih]; rfl

theorem sameW_mem {w : Nat} {es : List AV} (h : sameW w es = true) {v : AV} (hv : v ∈ es) : v.wide = some w := by
  have := List.all_eq_true.1 h v hv; simpa using this

theorem firstCells_list {w n c : Nat} {b : Addr} {xs : List Value} (hl : xs.length = n) (hw : ∀ x ∈ xs, x.cells.size = w) {bb oo : Nat} (hb : 0 < n → b = ⟨bb, oo, none⟩)
    (hlies : ∀ i x, xs[i]? = some x → Lies (cellP W) bb (oo + i * w) x) : (Builtin.firstCells w n (.slice (some b) n c)).run P W = .ok (flatC xs).toArray W := by
  have hlen : (flatC xs).length = n * w := by rw [flatC_len hw, hl]
  have := run_loadCells_list (P := P) W b (flatC xs) (fun j v hv => by
    have hj := lt_of_get hv
    rw [hlen] at hj
    have hw0 : 0 < w := by rcases Nat.eq_zero_or_pos w with h0 | h0; · subst h0; omega
                           · exact h0
    have hn0 : 0 < n := by rcases Nat.eq_zero_or_pos n with h0 | h0; · subst h0; omega
                           · exact h0
    rw [hb hn0, add_mk]
    have hi : j / w < xs.length := by rw [hl]; exact Nat.div_lt_of_lt_mul (by rw [Nat.mul_comm]; exact hj)
    have hx := List.getElem?_eq_getElem hi
    have hxw := hw _ (List.getElem_mem hi)
    have hjm : j % w < (xs[j / w]).cells.size := by rw [hxw]; exact Nat.mod_lt _ hw0
    have hget := flatC_get hw hx (j := j % w) (v := (xs[j / w]).cells[j % w]) (Array.getElem?_eq_getElem hjm)
    have hdm : j / w * w + j % w = j := by rw [Nat.mul_comm]; exact Nat.div_add_mod j w
    rw [hdm, hv] at hget
    simp only [Option.some.injEq] at hget
    have := hlies _ _ hx (j % w) _ (Array.getElem?_eq_getElem hjm)
    rw [← hget] at this
    unfold cellP at this
    rw [show oo + j = oo + j / w * w + j % w by omega]
    exact this)
  rw [hlen] at this
  simp [Builtin.firstCells, this]

theorem firstCells_zero {w : Nat} {x : Value} (h : ∃ b c, x = .slice b 0 c) : (Builtin.firstCells w 0 x).run P W = .ok #[] W := by
  obtain ⟨b, c, rfl⟩ := h
  cases b with
  | none => simp [Builtin.firstCells]
  | some b =>
    have := run_loadCells_list (P := P) W b [] (by simp)
    simpa [Builtin.firstCells] using this

theorem elems_ok (hr : Rel W0 B0 st ρ W) {v : AV} {ys : List AV} (h : elems st v = some ys) {x : Value} (hx : R (cx st ρ W st.A.length) v x) {w : Nat} (hw : sameW w ys = true) :
    ∃ xs : List Value, (Builtin.lenOf x).run P W = .ok ys.length W ∧ (∀ W' : World, (∀ c, W'.cell? c = W.cell? c) → (Builtin.firstCells w ys.length x).run P W' = .ok (flatC xs).toArray W') ∧ RL (cx st ρ W st.A.length) ys xs ∧ ∀ y ∈ xs, y.cells.size = w := by
  have hsize : ∀ {C : Cx} (_ : C.Ok) {xs : List Value}, RL C ys xs → ∀ y ∈ xs, y.cells.size = w := by
    intro C ok xs hrl y hy
    obtain ⟨i, hi⟩ := List.getElem?_of_mem hy
    have hlt := lt_of_get hi
    rw [← hrl.1] at hlt
    exact ((hrl.2 i _ y (List.getElem?_eq_getElem hlt) hi).wide ok (sameW_mem hw (List.getElem_mem hlt))).1
  unfold elems at h
  split at h
  · simp only [Option.some.injEq] at h; subst h
    cases hx with
    | nils b => exact ⟨[], rfl, fun _ _ => firstCells_zero ⟨b, 0, rfl⟩, .nil _, by simp⟩
  · rename_i es
    simp only [Option.some.injEq] at h; subst h
    obtain ⟨a', c, rfl, hc, hcase⟩ := lit_inv hx
    rcases hcase with rfl | ⟨b, o, w', xs, rfl, g1, g2⟩
    · exact ⟨[], rfl, fun _ _ => firstCells_zero ⟨a', c, rfl⟩, .nil _, by simp⟩
    · have hrl : RL (cx st ρ W st.A.length).pure es ((List.range es.length).map xs) := by
        refine ⟨by simp, fun i e y he hy => ?_⟩
        have hi := lt_of_get he
        rw [List.getElem?_map, List.getElem?_range hi] at hy
        simp only [Option.map_some, Option.some.injEq] at hy; subst hy
        exact g1 i e he
      have hsz := hsize (pure_cx_ok _) hrl
      refine ⟨_, rfl, fun W' hW => firstCells_list (bb := b) (oo := o) (by simp) hsz (fun _ => rfl) ?_, hrl.mono (Cx.pure_le _), hsz⟩
      intro i y hy
      have hi := lt_of_get hy
      simp only [List.length_map, List.length_range] at hi
      have hmem := hsz y (List.mem_of_getElem? hy)
      rw [List.getElem?_map, List.getElem?_range hi] at hy
      simp only [Option.map_some, Option.some.injEq] at hy; subst hy
      obtain ⟨g3, g4⟩ := g2 i hi
      have : w' = w := by omega
      subst this
      exact g4.mono (fun _ _ _ h => by unfold cellP; rw [hW]; exact h.1)
  · rename_i l
    simp only [Option.some.injEq] at h; subst h
    have := getStr hx; subst this
    have hrl := bytesAV_RL (cx st ρ W st.A.length) l
    refine ⟨_, ?_, ?_, hrl, hsize (cx_ok _ _ _ _) hrl⟩
    · simp [Builtin.lenOf, bytes_size, bytesAV]
    · intro W' hW
      rw [flatC_bytes]
      simp [Builtin.firstCells, bytesAV, bytes_extract]
  · rename_i lv ix ver s n
    cases hx with
    | ref hp =>
      obtain ⟨h1, h2, h3, a', c, rfl, h4⟩ := hp
      unfold refB at h
      split at h
      · rename_i w0 ver' es hg
        split at h
        · rename_i hc
          obtain ⟨rfl, hsn⟩ := hc
          simp only [Option.some.injEq] at h; subst h
          obtain ⟨g1, g2, g3⟩ := h4 w0 es hg
          have aok := hr.arr lv ix w0 ver es hg
          obtain ⟨xs, hxs, hl⟩ := aok.vals
          have hrl := ((hxs.drop s).take n).mono (cx_lv (ρ := ρ) (W := W) h1)
          have hsz := hsize (cx_ok _ _ _ _) hrl
          have hnl : ((es.drop s).take n).length = n := by simp; omega
          refine ⟨_, by rw [hnl]; rfl, ?_, hrl, hsz⟩
          rw [hnl]
          intro W' hW
          rcases Nat.eq_zero_or_pos n with h0 | h0
          · subst h0
            simp only [List.take_zero, flatC, List.flatMap_nil]
            exact firstCells_zero ⟨a', c, rfl⟩
          · have hal := aok.len
            have ha := g3 (by omega)
            subst ha
            refine firstCells_list (bb := (ρ lv ix).b) (oo := (ρ lv ix).o + s * w0) (by have := hrl.1; rw [← hrl.1]; exact hnl) hsz (fun _ => rfl) ?_
            intro i y hy
            have hyw := hsz y (List.mem_of_getElem? hy)
            rw [List.getElem?_take] at hy
            split at hy
            · rw [List.getElem?_drop] at hy
              obtain ⟨l1, l2⟩ := hl _ _ hy
              have : w0 = w := by omega
              subst this
              rw [show (ρ lv ix).o + s * w0 + i * w0 = (ρ lv ix).o + (s + i) * w0 by rw [Nat.add_mul]; omega]
              exact l2.mono (fun _ _ _ h => by unfold cellP; rw [hW]; exact h)
            · simp at hy
        · simp at h
      · simp at h
  · simp at h

theorem grow_le (n : Nat) : ∀ (r c : Nat), c ≤ 2 * n + 200 → Builtin.growBy n r c ≤ 2 * n + 200
  | 0, c, h => h
  | r + 1, c, h => by
    simp only [Builtin.growBy]
    split
    · exact h
    · exact grow_le n r _ (by omega)

theorem next_le {n c : Nat} (h : c < n) : Builtin.nextslicecap n c ≤ 2 * n + 200 := by
  unfold Builtin.nextslicecap
  split
  · omega
  · split
    · omega
    · exact grow_le n 4 c (by omega)

theorem flatC_append (xs ys : List Value) : flatC (xs ++ ys) = flatC xs ++ flatC ys := by simp [flatC]

theorem laid_flat {xs : List Value} {w : Nat} (hw : ∀ x ∈ xs, x.cells.size = w) (rest : Array Value) : Laid ((flatC xs).toArray ++ rest) w xs := by
  refine ⟨hw, fun i x hx j v hv => ?_⟩
  have h1 := flatC_get hw hx hv
  have := lt_of_get h1
  rw [Array.getElem?_append_left (by simpa using this)]
  simpa using h1

end
end Go.QAbs
