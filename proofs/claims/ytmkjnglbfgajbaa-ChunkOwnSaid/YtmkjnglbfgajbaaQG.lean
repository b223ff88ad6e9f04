/- New blocks, writes, appends, maps, sealing: each as a change of one block. No condition. -/
import Derived.Test.YtmkjnglbfgajbaaQF
import Derived.Laws.IdiomCopy
namespace Go.QAbs
set_option linter.unusedVariables false
set_option linter.unusedSimpArgs false
open Go.RowKit (Below)

/-! ### The store's side -/

structure Sh (st : St) (lv0 ix0 : Nat) (blk : Blk) (st' : St) : Prop where
  get0 : st'.get lv0 ix0 = some blk
  get : ∀ lv ix, ¬ (lv = lv0 ∧ ix = ix0) → st'.get lv ix = st.get lv ix
  len : st'.A.length = st.A.length
  old : ∀ (lv : Nat) (r : Bool × List Blk), st.A[lv]? = some r → ∃ r' : Bool × List Blk, st'.A[lv]? = some r' ∧ r'.1 = r.1 ∧ (r.1 = true → r' = r)
  ro : st'.ro = st.ro
  cur : st.ro = true → st'.L = st.L

theorem Sh.of_put {st st' : St} {lv0 ix0 : Nat} {blk : Blk} (h : st.put lv0 ix0 blk = some st') (hb : vis (some blk) = some blk := by rfl) : Sh st lv0 ix0 blk st' := by
  unfold St.put at h
  split at h
  · rename_i hl
    split at h
    · simp at h
    · rename_i hro
      split at h
      · rename_i hix
        simp only [Option.some.injEq] at h; subst h
        refine ⟨?_, ?_, rfl, fun lv r hr => ⟨r, hr, rfl, fun _ => rfl⟩, rfl, fun hr => absurd hr hro⟩
        · simp [St.get, hl, hix, hb]
        · intro lv ix hne
          simp only [St.get]
          split
          · rename_i h2
            rw [List.getElem?_set_ne]
            intro he; exact hne ⟨by omega, he.symm⟩
          · rfl
      · simp at h
  · rename_i hl
    cases hA : st.A[lv0]? with
    | none => rw [hA] at h; simp [putOld] at h
    | some r =>
      obtain ⟨ro, bs⟩ := r
      rw [hA] at h
      cases ro with
      | true => simp [putOld] at h
      | false =>
        simp only [putOld] at h
        split at h
        · rename_i hix
          simp only [Option.some.injEq] at h; subst h
          have hlt : lv0 < st.A.length := by
            rcases Nat.lt_or_ge lv0 st.A.length with h' | h'
            · exact h'
            · rw [List.getElem?_eq_none h'] at hA; simp at hA
          refine ⟨?_, ?_, by simp, ?_, rfl, fun _ => rfl⟩
          · simp [St.get, hl, hlt, hix, hb]
          · intro lv ix hne
            simp only [St.get, List.length_set]
            split
            · rfl
            · by_cases h2 : lv0 = lv
              · subst h2
                simp only [List.getElem?_set_self hlt, hA, Option.bind_some]
                rw [List.getElem?_set_ne]
                intro he; exact hne ⟨rfl, he.symm⟩
              · rw [List.getElem?_set_ne h2]
          · intro lv r hr
            by_cases h2 : lv0 = lv
            · subst h2
              rw [hA] at hr; simp only [Option.some.injEq] at hr; subst hr
              exact ⟨_, List.getElem?_set_self hlt, rfl, fun h => by simp at h⟩
            · exact ⟨r, by simp only; rw [List.getElem?_set_ne h2]; exact hr, rfl, fun _ => rfl⟩
        · simp at h

theorem Sh.of_new {st st' : St} {i : Nat} {blk : Blk} (h : st.new blk = some (i, st')) (hb : vis (some blk) = some blk := by rfl) : Sh st st.A.length i blk st' ∧ st.get st.A.length i = none := by
  unfold St.new at h
  split at h
  · simp at h
  · rename_i hro
    simp only [Option.some.injEq, Prod.mk.injEq] at h
    obtain ⟨rfl, rfl⟩ := h
    refine ⟨⟨by simp [St.get, hb], ?_, rfl, fun lv r hr => ⟨r, hr, rfl, fun _ => rfl⟩, rfl, fun hr => absurd hr hro⟩, by simp [St.get, vis]⟩
    intro lv ix hne
    simp only [St.get]
    split
    · rename_i h2
      by_cases h3 : ix < st.L.length
      · rw [List.getElem?_append_left h3]
      · have : ¬ ix = st.L.length := fun he => hne ⟨h2, he⟩
        rw [List.getElem?_eq_none (by simp; omega), List.getElem?_eq_none (by omega)]
    · rfl

/-- A block where there was none. -/
structure News (st : St) (b : Blk) (i : Nat) (st' : St) : Prop where
  sh : Sh st st.A.length i b st'
  none : st.get st.A.length i = Option.none

theorem News.of_new {st st' : St} {i : Nat} {blk : Blk} (h : st.new blk = some (i, st')) (hb : vis (some blk) = some blk := by rfl) : News st blk i st' := ⟨(Sh.of_new h hb).1, (Sh.of_new h hb).2⟩

theorem News.of_fill {st : St} {i j : Nat} {blk : Blk} (hro : st.ro = false) (h : st.L[i]? = some (.hole j)) (hb : vis (some blk) = some blk := by rfl) : News st blk i { st with L := st.L.set i blk } := by
  have hlt : i < st.L.length := by
    rcases Nat.lt_or_ge i st.L.length with h' | h'
    · exact h'
    · rw [List.getElem?_eq_none h'] at h; simp at h
  refine ⟨⟨by simp [St.get, hlt, hb], ?_, rfl, fun lv r hr => ⟨r, hr, rfl, fun _ => rfl⟩, rfl, fun hr => by rw [hro] at hr; simp at hr⟩, by simp [St.get, h, vis]⟩
  intro lv ix' hne
  simp only [St.get]
  split
  · rename_i h2
    rw [List.getElem?_set_ne]
    intro he; exact hne ⟨h2, he.symm⟩
  · rfl

theorem Sh.of_kill {st : St} {ix : Nat} {b : Blk} (hro : st.ro = false) (h : st.L[ix]? = some b) : Sh st st.A.length ix .dead { st with L := st.L.set ix .dead } := by
  have hlt : ix < st.L.length := by
    rcases Nat.lt_or_ge ix st.L.length with h' | h'
    · exact h'
    · rw [List.getElem?_eq_none h'] at h; simp at h
  refine ⟨by simp [St.get, hlt, vis], ?_, rfl, fun lv r hr => ⟨r, hr, rfl, fun _ => rfl⟩, rfl, fun hr => by rw [hro] at hr; simp at hr⟩
  intro lv ix' hne
  simp only [St.get]
  split
  · rename_i h2
    rw [List.getElem?_set_ne]
    intro he; exact hne ⟨h2, he.symm⟩
  · rfl

def upd (ρ : Rho) (lv0 ix0 : Nat) (l : Loc) : Rho := fun lv ix => if lv = lv0 ∧ ix = ix0 then l else ρ lv ix
theorem upd_same (ρ : Rho) (lv0 ix0 : Nat) (l : Loc) : upd ρ lv0 ix0 l lv0 ix0 = l := by simp [upd]
theorem upd_ne (ρ : Rho) (lv0 ix0 : Nat) (l : Loc) {lv ix : Nat} (h : ¬ (lv = lv0 ∧ ix = ix0)) : upd ρ lv0 ix0 l lv ix = ρ lv ix := by simp only [upd, if_neg h]

/-! ### The world's side -/

theorem cell_lt {W : World} {b o : Nat} {v : Value} (h : cellP W b o v) : b < W.heap.size := World.block_lt_of_cell? (a := ⟨b, o, none⟩) (w := W) h

theorem cell_alloc {W : World} {ob : Obj} {b o : Nat} {v : Value} (h : cellP W b o v) : cellP (W.alloc ob) b o v := by
  unfold cellP; rw [World.cell?_alloc_lt (h := cell_lt h)]; exact h

theorem frozen_alloc {W : World} {ob : Obj} {b o : Nat} (h : (W.cell? ⟨b, o, none⟩).isSome = true) : (W.alloc ob).frozen? ⟨b, o, none⟩ = W.frozen? ⟨b, o, none⟩ := by
  obtain ⟨v, hv⟩ := Option.isSome_iff_exists.1 h
  have := cell_lt (W := W) hv
  exact World.frozen?_alloc_old W ob ⟨b, o, none⟩ (by simp; omega)

theorem maps_alloc {W : World} {ob x : Obj} {b : Nat} (h : W.heap[b]? = some x) : (W.alloc ob).heap[b]? = some x := by
  have hlt : b < W.heap.size := by
    rcases Nat.lt_or_ge b W.heap.size with h' | h'
    · exact h'
    · rw [Array.getElem?_eq_none h'] at h; simp at h
  rw [Below.heap_alloc W ob b hlt]; exact h

theorem no_cell {W : World} {b o : Nat} (h : W.heap.size ≤ b) : W.cell? ⟨b, o, none⟩ = none := by
  unfold World.cell?; rw [Array.getElem?_eq_none h]

section
variable {W0 : World} {B0 : Nat} {st st' : St} {ρ : Rho} {W : World}

theorem Rel.drew (h : Rel W0 B0 st ρ W) : Rel W0 B0 st ρ W.drew :=
  ⟨h.below.drew, h.b0, fun lv ix w ver es hg => ⟨(h.arr lv ix w ver es hg).len, (h.arr lv ix w ver es hg).el, (h.arr lv ix w ver es hg).mem⟩, h.sep,
    fun lv ix es hg => ⟨(h.map lv ix es hg).b0, (h.map lv ix es hg).ob⟩, h.msep⟩

theorem Ev.drew (st : St) (ρ : Rho) (W : World) : Ev st ρ W st ρ W.drew := ⟨rfl, fun _ _ => .refl _, fun _ r h => ⟨r, h, rfl, fun _ => rfl⟩, rfl, fun _ => rfl⟩

/-- What a step gives: the new relation, and how things went on. -/
structure Goes (W0 : World) (B0 : Nat) (st : St) (ρ : Rho) (W : World) (st' : St) (ρ' : Rho) (W' : World) : Prop where
  rel : Rel W0 B0 st' ρ' W'
  ev : Ev st ρ W st' ρ' W'

theorem Goes.refl (h : Rel W0 B0 st ρ W) : Goes W0 B0 st ρ W st ρ W := ⟨h, .refl _ _ _⟩
theorem Goes.trans {st'' : St} {ρ' ρ'' : Rho} {W' W'' : World} (h : Goes W0 B0 st ρ W st' ρ' W') (k : Goes W0 B0 st' ρ' W' st'' ρ'' W'') : Goes W0 B0 st ρ W st'' ρ'' W'' :=
  ⟨k.rel, h.ev.trans k.ev⟩
theorem Goes.drew (h : Rel W0 B0 st ρ W) : Goes W0 B0 st ρ W st ρ W.drew := ⟨h.drew, .drew _ _ _⟩

/-- A new block of cells. -/
theorem new_arr (h : Rel W0 B0 st ρ W) {w ver c i : Nat} {es : List AV} {xs : List Value} {cs : Array Value} {elem : TypeId}
    (hn : News st (.arr w ver es) i st') (hx : RL (cx st ρ W st.A.length) es xs) (hw : ∀ x ∈ xs, x.cells.size = w) (hc : es.length ≤ c) (hcs : c * w ≤ cs.size)
    (hl : ∀ i x, xs[i]? = some x → ∀ j v, x.cells[j]? = some v → cs[i * w + j]? = some v) :
    Goes W0 B0 st ρ W st' (upd ρ st.A.length i ⟨W.heap.size, 0, c⟩) (W.alloc (.cells cs elem)) ∧
      ∀ m, st.A.length ≤ m → (cx st' (upd ρ st.A.length i ⟨W.heap.size, 0, c⟩) (W.alloc (.cells cs elem)) m).ref st.A.length i ver 0 es.length (.slice (some ⟨W.heap.size, 0, none⟩) es.length c) ∧
        ∀ k o, (cx st' (upd ρ st.A.length i ⟨W.heap.size, 0, c⟩) (W.alloc (.cells cs elem)) m).ptr st.A.length i ver k o (.pointer (some ⟨W.heap.size, k * w + o, none⟩)) := by
  obtain ⟨sh, hnone⟩ := hn
  have k : Chg W0 B0 st ρ W st.A.length i (.arr w ver es) st' (upd ρ st.A.length i ⟨W.heap.size, 0, c⟩) (W.alloc (.cells cs elem)) := by
    refine ⟨sh.get0, sh.get, fun lv ix hne => upd_ne _ _ _ _ hne, sh.len, sh.old, sh.ro, sh.cur, h.below.alloc h.b0 _, by simp, fun b o v hc _ => cell_alloc hc, fun b o hs => frozen_alloc hs,
      fun b en clock hb _ => maps_alloc hb, ?_, fun es he => by simp at he⟩
    intro w' ver' es' he
    simp only [Blk.arr.injEq] at he
    obtain ⟨rfl, rfl, rfl⟩ := he
    refine ⟨.inl hnone, fun j hj => .inl ?_⟩
    rw [upd_same]; exact no_cell (Nat.le_refl _)
  have hle := k.le h st.A.length
  refine ⟨⟨k.rel h ?_ (fun es he => by simp at he), k.ev h⟩, ?_⟩
  · intro w' ver' es' he
    simp only [Blk.arr.injEq] at he
    obtain ⟨rfl, rfl, rfl⟩ := he
    rw [upd_same]
    refine ⟨hc, ?_, ?_⟩
    · intro i' e he
      obtain ⟨x, hx1, hx2⟩ := hx.get he
      refine ⟨x, hx2.mono hle, hw x (List.mem_of_getElem? hx1), ?_⟩
      intro j v hv
      have := hl i' x hx1 j v hv
      unfold cellP
      simp only [Nat.zero_add]
      rw [World.cell?_alloc_new]; exact this
    · intro j hj
      have hjs : j < cs.size := by simp only at hj; omega
      refine ⟨h.b0, ?_, ?_⟩
      · simp only [Nat.zero_add]; rw [World.cell?_alloc_new, Array.getElem?_eq_getElem hjs]; rfl
      · simp only [Nat.zero_add]; exact World.frozen?_alloc_new _ _ _ _
  · intro m hm
    refine ⟨⟨hm, by rw [sh.get0]; rfl, ?_, _, _, rfl, ?_⟩, fun k o => ⟨hm, by rw [sh.get0]; rfl, ⟨_, rfl⟩, ?_, ?_⟩⟩
    · intro w' u es' hg; rw [sh.get0] at hg; simp only [Option.some.injEq, Blk.arr.injEq] at hg; omega
    · intro w' es' hg; rw [sh.get0] at hg; simp only [Option.some.injEq, Blk.arr.injEq] at hg
      obtain ⟨rfl, _, rfl⟩ := hg
      rw [upd_same]; simp
    · intro w' u es' hg; rw [sh.get0] at hg; simp only [Option.some.injEq, Blk.arr.injEq] at hg; omega
    · intro w' es' hg; rw [sh.get0] at hg; simp only [Option.some.injEq, Blk.arr.injEq] at hg
      obtain ⟨rfl, _, rfl⟩ := hg
      rw [upd_same]; simp

/-- A nil slice becomes an owned one: the world stays. -/
theorem new_nil (h : Rel W0 B0 st ρ W) {w i : Nat} (hn : News st (.arr w 0 []) i st') (a : Option Addr) :
    Goes W0 B0 st ρ W st' (upd ρ st.A.length i ⟨0, 0, 0⟩) W ∧
      ∀ m, st.A.length ≤ m → (cx st' (upd ρ st.A.length i ⟨0, 0, 0⟩) W m).ref st.A.length i 0 0 0 (.slice a 0 0) := by
  obtain ⟨sh, hnone⟩ := hn
  have k : Chg W0 B0 st ρ W st.A.length i (.arr w 0 []) st' (upd ρ st.A.length i ⟨0, 0, 0⟩) W := by
    refine ⟨sh.get0, sh.get, fun lv ix hne => upd_ne _ _ _ _ hne, sh.len, sh.old, sh.ro, sh.cur, h.below, Nat.le_refl _, fun b o v hc _ => hc, fun b o hs => rfl,
      fun b en clock hb _ => hb, ?_, fun es he => by simp at he⟩
    intro w' ver' es' he
    simp only [Blk.arr.injEq] at he
    obtain ⟨rfl, rfl, rfl⟩ := he
    refine ⟨.inl hnone, fun j hj => ?_⟩
    rw [upd_same] at hj; simp at hj
  refine ⟨⟨k.rel h ?_ (fun es he => by simp at he), k.ev h⟩, ?_⟩
  · intro w' ver' es' he
    simp only [Blk.arr.injEq] at he
    obtain ⟨rfl, rfl, rfl⟩ := he
    rw [upd_same]
    exact ⟨Nat.le_refl _, fun i e he => by simp at he, fun j hj => by simp at hj⟩
  · intro m hm
    refine ⟨hm, by rw [sh.get0]; rfl, ?_, _, _, rfl, ?_⟩
    · intro w' u es' hg; rw [sh.get0] at hg; simp only [Option.some.injEq, Blk.arr.injEq] at hg; omega
    · intro w' es' hg; rw [sh.get0] at hg; simp only [Option.some.injEq, Blk.arr.injEq] at hg
      obtain ⟨rfl, _, rfl⟩ := hg
      rw [upd_same]; simp

/-- A new map. -/
theorem new_map (h : Rel W0 B0 st ρ W) {i : Nat} (hn : News st (.map []) i st') :
    Goes W0 B0 st ρ W st' (upd ρ st.A.length i ⟨W.heap.size, 0, 0⟩) (W.alloc (.map #[] 0)) ∧
      ∀ m, st.A.length ≤ m → (cx st' (upd ρ st.A.length i ⟨W.heap.size, 0, 0⟩) (W.alloc (.map #[] 0)) m).map st.A.length i (.map (some W.heap.size)) := by
  obtain ⟨sh, hnone⟩ := hn
  have hnew : (W.alloc (.map #[] 0)).heap[W.heap.size]? = some (.map #[] 0) := by show (W.heap.push _)[_]? = _; simp
  have k : Chg W0 B0 st ρ W st.A.length i (.map []) st' (upd ρ st.A.length i ⟨W.heap.size, 0, 0⟩) (W.alloc (.map #[] 0)) := by
    refine ⟨sh.get0, sh.get, fun lv ix hne => upd_ne _ _ _ _ hne, sh.len, sh.old, sh.ro, sh.cur, h.below.alloc h.b0 _, by simp, fun b o v hc _ => cell_alloc hc, fun b o hs => frozen_alloc hs,
      fun b en clock hb _ => maps_alloc hb, fun w ver es he => by simp at he, fun es he => .inl ⟨hnone, ?_⟩⟩
    rw [upd_same]; simp
  refine ⟨⟨k.rel h (fun w ver es he => by simp at he) ?_, k.ev h⟩, ?_⟩
  · intro es he
    simp only [Blk.map.injEq] at he
    subst he
    rw [upd_same]
    exact ⟨h.b0, #[], 0, hnew, rfl, fun i k v he => by simp at he⟩
  · intro m hm
    exact ⟨hm, by rw [sh.get0]; rfl, _, rfl, fun es hg => by rw [upd_same]⟩

/-- A block is dropped: the world stays. -/
theorem kill_blk (h : Rel W0 B0 st ρ W) (hro : st.ro = false) {ix : Nat} {b : Blk} (hb : st.L[ix]? = some b) :
    Goes W0 B0 st ρ W { st with L := st.L.set ix .dead } ρ W := by
  have sh := Sh.of_kill hro hb
  have k : Chg W0 B0 st ρ W st.A.length ix .dead { st with L := st.L.set ix .dead } ρ W :=
    ⟨sh.get0, sh.get, fun lv ix hne => rfl, sh.len, sh.old, sh.ro, sh.cur, h.below, Nat.le_refl _, fun b o v hc _ => hc, fun b o hs => rfl,
      fun b en clock hb _ => hb, fun w ver es he => by simp at he, fun es he => by simp at he⟩
  exact ⟨k.rel h (fun w ver es he => by simp at he) (fun es he => by simp at he), k.ev h⟩

theorem cell_setCells {W : World} {b o b' o' : Nat} {vs : List Value} {v : Value} (h : cellP W b' o' v) (hn : ¬ (b' = b ∧ o ≤ o' ∧ o' < o + vs.length)) : cellP (W.setCells b o vs) b' o' v := by
  induction vs generalizing o W with
  | nil => exact h
  | cons x vs ih =>
    rw [World.setCells]
    refine ih ?_ ?_
    · unfold cellP
      rw [World.cell?_setCell_other]
      · exact h
      · intro he; simp only [Addr.mk.injEq] at he; exact hn ⟨he.1.symm, by omega, by simp; omega⟩
    · rintro ⟨h1, h2, h3⟩; exact hn ⟨h1, by omega, by simp; omega⟩

theorem setCells_at {W : World} {b o : Nat} {vs : List Value} (hs : ∀ j, j < vs.length → (W.cell? ⟨b, o + j, none⟩).isSome = true) {j : Nat} {v : Value} (hv : vs[j]? = some v) :
    cellP (W.setCells b o vs) b (o + j) v := by
  induction vs generalizing o W j with
  | nil => simp at hv
  | cons x vs ih =>
    rw [World.setCells]
    obtain ⟨u, hu⟩ := Option.isSome_iff_exists.1 (hs 0 (by simp))
    simp only [Nat.add_zero] at hu
    cases j with
    | zero =>
      simp only [List.getElem?_cons_zero, Option.some.injEq] at hv; subst hv
      refine cell_setCells (World.cell?_setCell_same _ _ _ hu) ?_
      rintro ⟨_, h2, _⟩; omega
    | succ j =>
      have := ih (W := W.setCell ⟨b, o, none⟩ x) (o := o + 1) (j := j) (fun i hi => by
        rw [World.cell?_setCell_other _ _ _ _ (by simp; omega)]
        have := hs (i + 1) (by simp; omega)
        rwa [show o + (i + 1) = o + 1 + i by omega] at this) (by simpa using hv)
      rwa [show o + (j + 1) = o + 1 + j by omega]

theorem size_setCells (b : Nat) : ∀ (vs : List Value) (o : Nat) (w : World), (w.setCells b o vs).heap.size = w.heap.size
  | [], _, _ => rfl
  | v :: r, o, w => by rw [World.setCells, size_setCells b r]; simp

theorem maps_setCells (b : Nat) {k : Nat} {en : Array MapEntry} {clock : Nat} : ∀ (vs : List Value) (o : Nat) (w : World), w.heap[k]? = some (.map en clock) → (w.setCells b o vs).heap[k]? = some (.map en clock)
  | [], _, _, h => h
  | v :: r, o, w, h => by
    rw [World.setCells]
    refine maps_setCells b r (o + 1) _ ?_
    simp only [World.setCell, Array.getElem?_modify]
    split
    · rw [h]; rfl
    · exact h

theorem below_setCells {B : Nat} {a : World} (b : Nat) : ∀ (vs : List Value) (o : Nat) (w : World), Below B a w → (vs = [] ∨ B ≤ b) → Below B a (w.setCells b o vs)
  | [], _, _, h, _ => h
  | v :: r, o, w, h, hb => by
    rw [World.setCells]
    have hb' : B ≤ b := hb.resolve_left (by simp)
    exact below_setCells b r (o + 1) _ (h.setCell (p := ⟨b, o, none⟩) hb' v) (.inr hb')

/-- A write into an owned block: `vs` from cell `o` of the block on; the block's new elements are `es'`. -/
theorem write_blk (h : Rel W0 B0 st ρ W) {lv ix w ver : Nat} {es es' : List AV} {o : Nat} {vs : List Value} (hg : st.get lv ix = some (.arr w ver es))
    (hp : st.put lv ix (.arr w ver es') = some st') (hlen : es'.length = es.length) (ho : o + vs.length ≤ (ρ lv ix).c * w)
    (hel : ∀ i e, es'[i]? = some e → (es[i]? = some e ∧ (i * w + w ≤ o ∨ o + vs.length ≤ i * w)) ∨
      ∃ x, R (cx st ρ W lv) e x ∧ x.cells.size = w ∧ ∀ j v, x.cells[j]? = some v →
        (o ≤ i * w + j ∧ vs[i * w + j - o]? = some v) ∨ ((i * w + j < o ∨ o + vs.length ≤ i * w + j) ∧ cellP W (ρ lv ix).b ((ρ lv ix).o + (i * w + j)) v)) :
    Goes W0 B0 st ρ W st' ρ (W.setCells (ρ lv ix).b ((ρ lv ix).o + o) vs) := by
  have sh := Sh.of_put hp
  obtain ⟨a1, a2, a3⟩ := h.arr lv ix w ver es hg
  have hsome : ∀ j, j < vs.length → (W.cell? ⟨(ρ lv ix).b, (ρ lv ix).o + o + j, none⟩).isSome = true := by
    intro j hj
    have := (a3 (o + j) (by omega)).2.1
    rwa [show (ρ lv ix).o + (o + j) = (ρ lv ix).o + o + j by omega] at this
  have hb0 : vs = [] ∨ B0 ≤ (ρ lv ix).b := by
    cases vs with
    | nil => exact .inl rfl
    | cons v vs => exact .inr (a3 o (by simp at ho; omega)).1
  have k : Chg W0 B0 st ρ W lv ix (.arr w ver es') st' ρ (W.setCells (ρ lv ix).b ((ρ lv ix).o + o) vs) := by
    refine ⟨sh.get0, sh.get, fun _ _ _ => rfl, sh.len, sh.old, sh.ro, sh.cur, below_setCells _ _ _ _ h.below hb0, by rw [size_setCells]; exact Nat.le_refl _, ?_, fun b o' hs => World.frozen?_setCells _ _ _ _ _,
      fun b en clock hb _ => maps_setCells _ _ _ _ hb, ?_, fun es he => by simp at he⟩
    · intro b o' v hc hn
      refine cell_setCells hc ?_
      rintro ⟨rfl, h2, h3⟩
      exact hn w ver es hg ⟨rfl, by omega, by omega⟩
    · intro w' ver' es1 he
      simp only [Blk.arr.injEq] at he
      obtain ⟨rfl, rfl, rfl⟩ := he
      exact ⟨.inr ⟨w, ver, es, hg, Nat.le_refl _, fun _ => ⟨rfl, by omega, rfl⟩⟩, fun j hj => .inr ⟨w, ver, es, hg, rfl, by omega, by omega⟩⟩
  refine ⟨k.rel h ?_ (fun es he => by simp at he), k.ev h⟩
  intro w' ver' es1 he
  simp only [Blk.arr.injEq] at he
  obtain ⟨rfl, rfl, rfl⟩ := he
  refine ⟨by omega, ?_, ?_⟩
  · intro i e he
    rcases hel i e he with ⟨he', hout⟩ | ⟨x, hx1, hx2, hx3⟩
    · obtain ⟨x, hx1, hx2, hx3⟩ := a2 i e he'
      refine ⟨x, hx1.mono (k.le h lv), hx2, ?_⟩
      intro j v hv
      have hj : j < x.cells.size := by
        rcases Nat.lt_or_ge j x.cells.size with h' | h'
        · exact h'
        · rw [Array.getElem?_eq_none h'] at hv; simp at hv
      refine cell_setCells (hx3 j v hv) ?_
      rintro ⟨_, h2, h3⟩; omega
    · refine ⟨x, hx1.mono (k.le h lv), hx2, ?_⟩
      intro j v hv
      rcases hx3 j v hv with ⟨h1, h2⟩ | ⟨h1, h2⟩
      · have := setCells_at (W := W) (b := (ρ lv ix).b) (o := (ρ lv ix).o + o) hsome h2
        rwa [show (ρ lv ix).o + o + (i * w + j - o) = (ρ lv ix).o + i * w + j by omega] at this
      · rw [show (ρ lv ix).o + (i * w + j) = (ρ lv ix).o + i * w + j by omega] at h2
        refine cell_setCells h2 ?_
        rintro ⟨_, h3, h4⟩; omega
  · intro j hj
    obtain ⟨m1, m2, m3⟩ := a3 j hj
    refine ⟨m1, ?_, by rw [World.frozen?_setCells]; exact m3⟩
    by_cases hin : o ≤ j ∧ j < o + vs.length
    · have hlt : j - o < vs.length := by omega
      have := setCells_at (W := W) (b := (ρ lv ix).b) (o := (ρ lv ix).o + o) hsome (List.getElem?_eq_getElem hlt)
      rw [show (ρ lv ix).o + o + (j - o) = (ρ lv ix).o + j by omega] at this
      unfold cellP at this; rw [this]; rfl
    · obtain ⟨u, hu⟩ := Option.isSome_iff_exists.1 m2
      have : cellP (W.setCells (ρ lv ix).b ((ρ lv ix).o + o) vs) (ρ lv ix).b ((ρ lv ix).o + j) u := cell_setCells hu (by rintro ⟨_, h3, h4⟩; omega)
      unfold cellP at this; rw [this]; rfl
end
end Go.QAbs
