/- Making and appending. No condition. -/
import Derived.Test.YtmkjnglbfgajbaaQN
namespace Go.QAbs
set_option linter.unusedVariables false
set_option linter.unusedSimpArgs false
open Go.RowKit (Below)

section
variable {P : Program} {W0 : World} {B0 : Nat} {st st' : St} {ρ : Rho} {W : World} {e : Env} {a : Act}

/-- A new block that the store knows nothing of. -/
theorem alloc_junk (h : Rel W0 B0 st ρ W) (ob : Obj) : Goes W0 B0 st ρ W st ρ (W.alloc ob) := by
  have hle : ∀ m, (cx st ρ W m).le (cx st ρ (W.alloc ob) m) := fun m => ⟨fun b o v q => ⟨cell_alloc q.1, q.2⟩, fun _ _ _ _ _ _ q => q, fun _ _ _ _ _ _ q => q, fun _ _ _ q => q⟩
  refine ⟨⟨h.below.alloc h.b0 _, by have := h.b0; simp; omega, ?_, h.sep, ?_, h.msep⟩, ⟨rfl, fun m _ => hle m, fun _ r h => ⟨r, h, rfl, fun _ => rfl⟩, rfl, fun _ => rfl⟩⟩
  · intro lv ix w ver es hg
    obtain ⟨a1, a2, a3⟩ := h.arr lv ix w ver es hg
    refine ⟨a1, fun i e he => ?_, fun j hj => ?_⟩
    · obtain ⟨x, h1, h2, h3⟩ := a2 i e he
      exact ⟨x, h1.mono (hle lv), h2, h3.mono fun _ _ _ => cell_alloc⟩
    · obtain ⟨m1, m2, m3⟩ := a3 j hj
      obtain ⟨u, hu⟩ := Option.isSome_iff_exists.1 m2
      have hc : cellP (W.alloc ob) _ _ u := cell_alloc hu
      unfold cellP at hc
      exact ⟨m1, by rw [hc]; rfl, by rw [frozen_alloc m2]; exact m3⟩
  · intro lv ix es hg
    obtain ⟨m1, en, clock, m2, m3, m4⟩ := h.map lv ix es hg
    refine ⟨m1, en, clock, maps_alloc m2, m3, fun i k v hk => ?_⟩
    obtain ⟨n1, x, n2, n3, n4⟩ := m4 i k v hk
    exact ⟨n1, x, n2, n3.mono (hle lv), n4.mono (hle lv)⟩

theorem Rel.new_im (h : Rel W0 B0 st ρ W) {cs : Array Value} {t : TypeId} {o : Nat} {v : Value} (hv : cs[o]? = some v) : (cx st ρ (W.alloc (.cells cs t)) 0).im W.heap.size o v := by
  refine ⟨by unfold cellP; rw [World.cell?_alloc_new]; exact hv, ?_⟩
  rintro ⟨lv, ix, w, ver, es, hg, hr⟩
  have := h.mem_cell hg hr
  rw [no_cell (Nat.le_refl _)] at this
  simp at this

/-! ### The cells of a literal -/

theorem putAll_get : ∀ (vs : List Value) (k off : Nat) (cs : Array Value) (i : Nat), off + k + vs.length ≤ cs.size →
    ((vs.zipIdx k).foldl (fun cs (p : Value × Nat) => cs.setIfInBounds (off + p.2) p.1) cs).size = cs.size ∧
    ((vs.zipIdx k).foldl (fun cs (p : Value × Nat) => cs.setIfInBounds (off + p.2) p.1) cs)[i]? = if off + k ≤ i ∧ i < off + k + vs.length then vs[i - (off + k)]? else cs[i]?
  | [], k, off, cs, i, _ => by simp; omega
  | v :: vs, k, off, cs, i, h => by
    simp only [List.length_cons] at h
    obtain ⟨h1, h2⟩ := putAll_get vs (k + 1) off (cs.setIfInBounds (off + k) v) i (by simp; omega)
    simp only [List.zipIdx_cons, List.foldl_cons]
    refine ⟨by rw [h1]; simp, ?_⟩
    rw [h2]
    by_cases c1 : off + k = i
    · subst c1
      rw [if_neg (by omega), if_pos (by simp)]
      rw [Array.getElem?_setIfInBounds]
      rw [if_pos rfl, if_pos (by omega)]
      simp
    · by_cases c2 : off + (k + 1) ≤ i ∧ i < off + (k + 1) + vs.length
      · rw [if_pos c2, if_pos (by simp; omega)]
        rw [show i - (off + k) = (i - (off + (k + 1))) + 1 by omega]
        simp
      · rw [if_neg c2, if_neg (by simp; omega), Array.getElem?_setIfInBounds, if_neg c1]

theorem fold_get (x : Value) (off : Nat) (cs : Array Value) (h : off + x.cells.size ≤ cs.size) (i : Nat) :
    (x.cells.zipIdx.foldl (fun cs (c, j) => cs.setIfInBounds (off + j) c) cs).size = cs.size ∧
    (x.cells.zipIdx.foldl (fun cs (c, j) => cs.setIfInBounds (off + j) c) cs)[i]? = if off ≤ i ∧ i < off + x.cells.size then x.cells[i - off]? else cs[i]? := by
  have := putAll_get x.cells.toList 0 off cs i (by simpa using h)
  rw [← Array.foldl_toList, Array.toList_zipIdx]
  simpa using this

theorem fillV_ok {C : Cx} (ok : C.Ok) (place : Nat → Option (Nat × Nat)) : ∀ {l : List (Nat × Nat × AV)} {cv cv' : List AV} {ps : List (Nat × Value)} {cs : Array Value},
    fillV cv l = some cv' → RL C cv cs.toList → l.length = ps.length → (∀ (i : Nat) (p : Nat × Nat × AV) (q : Nat × Value), l[i]? = some p → ps[i]? = some q → place q.1 = some (p.1, p.2.1) ∧ R C p.2.2 q.2) →
    ∃ cs', Instr.fill place cs ps = some cs' ∧ RL C cv' cs'.toList
  | [], cv, cv', ps, cs, h, hr, hl, _ => by
    simp only [fillV, Option.some.injEq] at h; subst h
    cases ps with
    | nil => exact ⟨cs, rfl, hr⟩
    | cons p ps => simp at hl
  | (off, size, v) :: l, cv, cv', ps, cs, h, hr, hl, hp => by
    cases ps with
    | nil => simp at hl
    | cons q ps =>
      obtain ⟨i, x⟩ := q
      obtain ⟨h1, h2⟩ := hp 0 _ _ rfl rfl
      simp only [fillV] at h
      split at h
      · rename_i hc
        obtain ⟨hw, hle⟩ := hc
        have hx : x.cells.size = size := (h2.wide ok hw).1
        have hcl := hr.1
        have hcl2 : cs.toList.length = cs.size := Array.length_toList
        have hcells := h2.cells ok (wide_any hw)
        simp only at h1
        have hb : off + x.cells.size ≤ cs.size := by omega
        have hnew : RL C (splice cv off v.cells) (x.cells.zipIdx.foldl (fun cs (c, j) => cs.setIfInBounds (off + j) c) cs).toList := by
          have hvl : v.cells.length = x.cells.size := by rw [hcells.1, Array.length_toList]
          have heq : (x.cells.zipIdx.foldl (fun cs (c, j) => cs.setIfInBounds (off + j) c) cs).toList = cs.toList.take off ++ x.cells.toList ++ cs.toList.drop (off + x.cells.toList.length) := by
            apply List.ext_getElem?
            intro k
            rw [Array.getElem?_toList, (fold_get x off cs hb k).2]
            have htk : (cs.toList.take off).length = off := by rw [List.length_take, Array.length_toList]; omega
            by_cases c1 : k < off
            · rw [if_neg (by omega), List.append_assoc, List.getElem?_append_left (by omega), List.getElem?_take, if_pos c1]; simp
            · by_cases c2 : k < off + x.cells.size
              · rw [if_pos (by omega), List.append_assoc, List.getElem?_append_right (by omega), htk, List.getElem?_append_left (by rw [Array.length_toList]; omega)]; simp
              · rw [if_neg (by omega), List.getElem?_append_right (by rw [List.length_append, htk, Array.length_toList]; omega), List.getElem?_drop, List.length_append, htk, Array.length_toList]
                rw [show off + x.cells.size + (k - (off + x.cells.size)) = k by omega]; simp
          rw [heq]
          unfold splice
          rw [hcells.1]
          exact ((hr.take off).append hcells).append (hr.drop _)
        obtain ⟨cs', hf, hr'⟩ := fillV_ok ok place (l := l) (ps := ps) h hnew (by simpa using hl) (fun i p q a b => hp (i + 1) p q (by simpa using a) (by simpa using b))
        refine ⟨cs', ?_, hr'⟩
        simp only [Instr.fill, h1]
        rw [if_neg (by simp; omega)]
        exact hf
      · simp at h

/-- Values lie one behind the other. -/
def Laid (cs : Array Value) (w : Nat) (xs : List Value) : Prop :=
  (∀ x ∈ xs, x.cells.size = w) ∧ ∀ (i : Nat) (x : Value), xs[i]? = some x → ∀ (j : Nat) (v : Value), x.cells[j]? = some v → cs[i * w + j]? = some v

theorem fillE_ok {C : Cx} (ok : C.Ok) {w : Nat} : ∀ {l : List (Nat × AV)} {es es' : List AV} {ps : List (Nat × Value)} {cs : Array Value} {xs : List Value},
    fillE w es l = some es' → RL C es xs → Laid cs w xs → cs.size = es.length * w → l.length = ps.length → (∀ (i : Nat) (p : Nat × AV) (q : Nat × Value), l[i]? = some p → ps[i]? = some q → q.1 = p.1 ∧ R C p.2 q.2) →
    ∃ cs' xs', Instr.fill (fun i => some (i * w, w)) cs ps = some cs' ∧ RL C es' xs' ∧ Laid cs' w xs' ∧ cs'.size = cs.size ∧ es'.length = es.length
  | [], es, es', ps, cs, xs, h, hr, hla, hs, hl, _ => by
    simp only [fillE, Option.some.injEq] at h; subst h
    cases ps with
    | nil => exact ⟨cs, xs, rfl, hr, hla, rfl, rfl⟩
    | cons p ps => simp at hl
  | (k, v) :: l, es, es', ps, cs, xs, h, hr, hla, hs, hl, hp => by
    cases ps with
    | nil => simp at hl
    | cons q ps =>
      obtain ⟨i, x⟩ := q
      obtain ⟨h1, h2⟩ := hp 0 _ _ rfl rfl
      simp only at h1
      subst h1
      simp only [fillE] at h
      split at h
      · rename_i hc
        obtain ⟨hw, hlt⟩ := hc
        have hx : x.cells.size = w := (h2.wide ok hw).1
        have hmul : (i + 1) * w ≤ es.length * w := Nat.mul_le_mul_right w hlt
        rw [Nat.add_mul, Nat.one_mul] at hmul
        have hb : i * w + x.cells.size ≤ cs.size := by omega
        have hla' : Laid (x.cells.zipIdx.foldl (fun cs (c, j) => cs.setIfInBounds (i * w + j) c) cs) w (xs.set i x) := by
          refine ⟨fun y hy => ?_, fun m y hy j u hu => ?_⟩
          · rcases List.mem_or_eq_of_mem_set hy with hy | hy
            · exact hla.1 y hy
            · subst hy; exact hx
          · rw [(fold_get x (i * w) cs hb (m * w + j)).2]
            have hj := lt_of_getA hu
            rw [List.getElem?_set] at hy
            by_cases c1 : i = m
            · subst c1
              rw [if_pos rfl] at hy
              split at hy
              · simp only [Option.some.injEq] at hy; subst hy
                rw [if_pos (by omega), show i * w + j - i * w = j by omega]; exact hu
              · simp at hy
            · rw [if_neg c1] at hy
              have hyw := hla.1 y (List.mem_of_getElem? hy)
              have hne : ¬ (i * w ≤ m * w + j ∧ m * w + j < i * w + x.cells.size) := by
                rcases Nat.lt_or_gt_of_ne c1 with hlt | hgt
                · have : (i + 1) * w ≤ m * w := Nat.mul_le_mul_right w hlt
                  rw [Nat.add_mul, Nat.one_mul] at this; omega
                · have : (m + 1) * w ≤ i * w := Nat.mul_le_mul_right w hgt
                  rw [Nat.add_mul, Nat.one_mul] at this; omega
              rw [if_neg hne]
              exact hla.2 m y hy j u hu
        have hsz : (x.cells.zipIdx.foldl (fun cs (c, j) => cs.setIfInBounds (i * w + j) c) cs).size = cs.size := (fold_get x (i * w) cs hb 0).1
        obtain ⟨cs', xs', hf, q1, q2, q3, q4⟩ := fillE_ok ok (l := l) (ps := ps) h (hr.set h2 i) hla' (by rw [hsz, hs]; simp) (by simpa using hl) (fun i p q a b => hp (i + 1) p q (by simpa using a) (by simpa using b))
        refine ⟨cs', xs', ?_, q1, q2, by rw [q3, hsz], by rw [q4]; simp⟩
        simp only [Instr.fill]
        rw [if_neg (by simp; omega)]
        exact hf
      · simp at h

theorem zero_laid {zv : Value} {w n c : Nat} (hw : zv.cells.size = w) (hw0 : w ≠ 0) (hn : n ≤ c) : Laid ((Array.range (c * w)).map (fun i => zv.cells[i % zv.cells.size]!)) w (List.replicate n zv) := by
  refine ⟨fun x hx => by rw [(List.mem_replicate.1 hx).2]; exact hw, fun i x hx j v hv => ?_⟩
  have hi := lt_of_get hx
  simp only [List.length_replicate] at hi
  rw [List.getElem?_replicate, if_pos hi] at hx
  simp only [Option.some.injEq] at hx; subst hx
  have hj := lt_of_getA hv
  have hmul : (i + 1) * w ≤ c * w := Nat.mul_le_mul_right w (by omega)
  rw [Nat.add_mul, Nat.one_mul] at hmul
  rw [Array.getElem?_map, Array.getElem?_range]
  rw [if_pos (by omega)]
  simp only [Option.map_some, Option.some.injEq]
  have : (i * w + j) % zv.cells.size = j := by
    rw [hw, Nat.mul_comm, Nat.mul_add_mod, Nat.mod_eq_of_lt (by omega)]
  rw [this]
  rw [Array.getElem?_eq_getElem hj] at hv
  simp only [Option.some.injEq] at hv
  rw [← hv]
  exact getElem!_pos zv.cells j hj

theorem RL_replicate {C : Cx} {v : AV} {x : Value} (h : R C v x) (n : Nat) : RL C (List.replicate n v) (List.replicate n x) := by
  induction n with
  | zero => exact .nil _
  | succ n ih => exact .cons h ih

end
end Go.QAbs
