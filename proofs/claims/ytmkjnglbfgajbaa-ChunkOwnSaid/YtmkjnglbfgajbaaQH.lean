/- Appending, maps, sealing. No condition. -/
import Derived.Test.YtmkjnglbfgajbaaQG
namespace Go.QAbs
set_option linter.unusedVariables false
set_option linter.unusedSimpArgs false
open Go.RowKit (Below)

/-- The cells of values, one value behind the other. -/
def flatC (xs : List Value) : List Value := xs.flatMap fun x => x.cells.toList

theorem flatC_len {xs : List Value} {w : Nat} (h : ∀ x ∈ xs, x.cells.size = w) : (flatC xs).length = xs.length * w := by
  induction xs with
  | nil => simp [flatC]
  | cons x xs ih =>
    have ih := ih (fun y hy => h y (by simp [hy]))
    have hx := h x (by simp)
    simp only [flatC, List.flatMap_cons, List.length_append, List.length_cons, Array.length_toList] at ih ⊢
    rw [ih, hx, Nat.add_mul]; omega

theorem flatC_get {xs : List Value} {w : Nat} (h : ∀ x ∈ xs, x.cells.size = w) {k : Nat} {x : Value} (hk : xs[k]? = some x) {j : Nat} {v : Value} (hj : x.cells[j]? = some v) :
    (flatC xs)[k * w + j]? = some v := by
  induction xs generalizing k with
  | nil => simp at hk
  | cons y ys ih =>
    have hy := h y (by simp)
    simp only [flatC, List.flatMap_cons]
    cases k with
    | zero =>
      simp only [List.getElem?_cons_zero, Option.some.injEq] at hk; subst hk
      have hlt : j < y.cells.size := by
        rcases Nat.lt_or_ge j y.cells.size with h' | h'
        · exact h'
        · rw [Array.getElem?_eq_none h'] at hj; simp at hj
      rw [Nat.zero_mul, Nat.zero_add, List.getElem?_append_left (by simpa using hlt)]
      simpa using hj
    | succ k =>
      have := ih (fun z hz => h z (by simp [hz])) (by simpa using hk)
      rw [List.getElem?_append_right (by simp [hy, Nat.add_mul]; omega)]
      rw [show (k + 1) * w + j - y.cells.toList.length = k * w + j by simp [hy, Nat.add_mul]; omega]
      exact this

section
variable {W0 : World} {B0 : Nat} {st st' : St} {ρ : Rho} {W : World}

/-- The values of a block's elements. -/
theorem ArrOk.vals {B0 : Nat} {C : Cx} {W : World} {l : Loc} {w : Nat} {es : List AV} (h : ArrOk B0 C W l w es) :
    ∃ xs : List Value, RL C es xs ∧ ∀ i x, xs[i]? = some x → x.cells.size = w ∧ Lies (cellP W) l.b (l.o + i * w) x := by
  have hex : ∀ i, ∃ x, ∀ e, es[i]? = some e → R C e x ∧ x.cells.size = w ∧ Lies (cellP W) l.b (l.o + i * w) x := by
    intro i
    cases he : es[i]? with
    | none => exact ⟨undef, fun e h => by simp at h⟩
    | some e =>
      obtain ⟨x, hx⟩ := h.el i e he
      exact ⟨x, fun e' h' => by simp only [Option.some.injEq] at h'; subst h'; exact hx⟩
  obtain ⟨f, hf⟩ := Classical.axiomOfChoice hex
  refine ⟨(List.range es.length).map f, ⟨by simp, fun i e x he hx => ?_⟩, fun i x hx => ?_⟩
  · rw [List.getElem?_map] at hx
    cases hr : (List.range es.length)[i]? with
    | none => rw [hr] at hx; simp at hx
    | some k =>
      rw [hr] at hx
      simp only [Option.map_some, Option.some.injEq] at hx
      have : i = k := by rw [List.getElem?_range] at hr; · simpa using hr
                         · rcases Nat.lt_or_ge i es.length with h' | h'
                           · exact h'
                           · rw [List.getElem?_eq_none (by simpa using h')] at hr; simp at hr
      subst this; subst hx
      exact (hf i e he).1
  · rw [List.getElem?_map] at hx
    cases hr : (List.range es.length)[i]? with
    | none => rw [hr] at hx; simp at hx
    | some k =>
      rw [hr] at hx
      simp only [Option.map_some, Option.some.injEq] at hx
      have hi : i < es.length := by
        rcases Nat.lt_or_ge i es.length with h' | h'
        · exact h'
        · rw [List.getElem?_eq_none (by simpa using h')] at hr; simp at hr
      have : i = k := by rw [List.getElem?_range hi] at hr; simpa using hr
      subst this; subst hx
      exact (hf i _ (List.getElem?_eq_getElem hi)).2

theorem lt_of_get {α : Type} {l : List α} {i : Nat} {a : α} (h : l[i]? = some a) : i < l.length := by
  rcases Nat.lt_or_ge i l.length with h' | h'
  · exact h'
  · rw [List.getElem?_eq_none h'] at h; simp at h

theorem lt_of_getA {α : Type} {l : Array α} {i : Nat} {a : α} (h : l[i]? = some a) : i < l.size := by
  rcases Nat.lt_or_ge i l.size with h' | h'
  · exact h'
  · rw [Array.getElem?_eq_none h'] at h; simp at h

/-- Append within the capacity. -/
theorem app_in (h : Rel W0 B0 st ρ W) {lv ix w ver s n : Nat} {es ys : List AV} {xs : List Value} (hg : st.get lv ix = some (.arr w ver es)) (hsn : s + n ≤ es.length)
    (hp : st.put lv ix (.arr w (ver + 1) ((es.drop s).take n ++ ys)) = some st') (hx : RL (cx st ρ W lv) ys xs) (hw : ∀ x ∈ xs, x.cells.size = w)
    (hcap : s + n + ys.length ≤ (ρ lv ix).c) :
    Goes W0 B0 st ρ W st' (upd ρ lv ix ⟨(ρ lv ix).b, (ρ lv ix).o + s * w, (ρ lv ix).c - s⟩) (W.setCells (ρ lv ix).b ((ρ lv ix).o + (s + n) * w) (flatC xs)) := by
  have sh := Sh.of_put hp
  obtain ⟨a1, a2, a3⟩ := h.arr lv ix w ver es hg
  have hfl : (flatC xs).length = ys.length * w := by rw [flatC_len hw, hx.1]
  have hroom : (s + n) * w + ys.length * w ≤ (ρ lv ix).c * w := by rw [← Nat.add_mul]; exact Nat.mul_le_mul_right w hcap
  have hsome : ∀ j, j < (flatC xs).length → (W.cell? ⟨(ρ lv ix).b, (ρ lv ix).o + (s + n) * w + j, none⟩).isSome = true := by
    intro j hj
    have := (a3 ((s + n) * w + j) (by omega)).2.1
    rwa [show (ρ lv ix).o + ((s + n) * w + j) = (ρ lv ix).o + (s + n) * w + j by omega] at this
  have hb0 : flatC xs = [] ∨ B0 ≤ (ρ lv ix).b := by
    cases hfx : flatC xs with
    | nil => exact .inl rfl
    | cons v vs => exact .inr (a3 ((s + n) * w) (by rw [hfx] at hfl; simp at hfl; omega)).1
  have hsub : ((ρ lv ix).c - s) * w + s * w ≤ (ρ lv ix).c * w := by rw [← Nat.add_mul]; exact Nat.mul_le_mul_right w (by omega)
  have k : Chg W0 B0 st ρ W lv ix (.arr w (ver + 1) ((es.drop s).take n ++ ys)) st' (upd ρ lv ix ⟨(ρ lv ix).b, (ρ lv ix).o + s * w, (ρ lv ix).c - s⟩)
      (W.setCells (ρ lv ix).b ((ρ lv ix).o + (s + n) * w) (flatC xs)) := by
    refine ⟨sh.get0, sh.get, fun _ _ hne => upd_ne _ _ _ _ hne, sh.len, sh.old, sh.ro, sh.cur, below_setCells _ _ _ _ h.below hb0, by rw [size_setCells]; exact Nat.le_refl _, ?_,
      fun b o' hs => World.frozen?_setCells _ _ _ _ _, fun b en clock hb _ => maps_setCells _ _ _ _ hb, ?_, fun es he => by simp at he⟩
    · intro b o' v hc hn
      refine cell_setCells hc ?_
      rintro ⟨rfl, h2, h3⟩
      exact hn w ver es hg ⟨rfl, by omega, by omega⟩
    · intro w' ver' es1 he
      simp only [Blk.arr.injEq] at he
      obtain ⟨rfl, rfl, rfl⟩ := he
      refine ⟨.inr ⟨w, ver, es, hg, by omega, fun h => by omega⟩, fun j hj => .inr ⟨w, ver, es, hg, ?_⟩⟩
      rw [upd_same] at hj ⊢
      exact ⟨rfl, by simp only; omega, by simp only at hj ⊢; omega⟩
  refine ⟨k.rel h ?_ (fun es he => by simp at he), k.ev h⟩
  intro w' ver' es1 he
  simp only [Blk.arr.injEq] at he
  obtain ⟨rfl, rfl, rfl⟩ := he
  rw [upd_same]
  have hl : ((es.drop s).take n).length = n := by simp; omega
  refine ⟨by simp only [List.length_append, hl]; omega, ?_, ?_⟩
  · intro i e he
    by_cases hi : i < n
    · rw [List.getElem?_append_left (by omega), List.getElem?_take, if_pos hi, List.getElem?_drop] at he
      obtain ⟨x, hx1, hx2, hx3⟩ := a2 (s + i) e he
      refine ⟨x, hx1.mono (k.le h lv), hx2, ?_⟩
      intro j v hv
      have hj := lt_of_getA hv
      have := hx3 j v hv
      simp only
      rw [show (ρ lv ix).o + s * w + i * w + j = (ρ lv ix).o + (s + i) * w + j by rw [Nat.add_mul]; omega]
      refine cell_setCells this ?_
      rintro ⟨_, h2, h3⟩
      have : (s + i + 1) * w ≤ (s + n) * w := Nat.mul_le_mul_right w (by omega)
      rw [Nat.add_mul, Nat.one_mul] at this; omega
    · rw [List.getElem?_append_right (by omega), hl] at he
      obtain ⟨x, hx1, hx2⟩ := hx.get he
      have hxw := hw x (List.mem_of_getElem? hx1)
      refine ⟨x, hx2.mono (k.le h lv), hxw, ?_⟩
      intro j v hv
      have := setCells_at (W := W) (b := (ρ lv ix).b) (o := (ρ lv ix).o + (s + n) * w) hsome (flatC_get hw hx1 hv)
      have hmul : i * w = n * w + (i - n) * w := by rw [← Nat.add_mul]; congr 1; omega
      simp only
      rw [show (ρ lv ix).o + s * w + i * w + j = (ρ lv ix).o + (s + n) * w + ((i - n) * w + j) by rw [Nat.add_mul, hmul]; omega]
      exact this
  · intro j hj
    simp only at hj ⊢
    obtain ⟨m1, m2, m3⟩ := a3 (s * w + j) (by omega)
    rw [show (ρ lv ix).o + (s * w + j) = (ρ lv ix).o + s * w + j by omega] at m2 m3
    refine ⟨m1, ?_, by rw [World.frozen?_setCells]; exact m3⟩
    by_cases hin : (s + n) * w ≤ s * w + j ∧ s * w + j < (s + n) * w + (flatC xs).length
    · have hlt : s * w + j - (s + n) * w < (flatC xs).length := by omega
      have := setCells_at (W := W) (b := (ρ lv ix).b) (o := (ρ lv ix).o + (s + n) * w) hsome (List.getElem?_eq_getElem hlt)
      rw [show (ρ lv ix).o + (s + n) * w + (s * w + j - (s + n) * w) = (ρ lv ix).o + s * w + j by omega] at this
      unfold cellP at this; rw [this]; rfl
    · obtain ⟨u, hu⟩ := Option.isSome_iff_exists.1 m2
      have : cellP (W.setCells (ρ lv ix).b ((ρ lv ix).o + (s + n) * w) (flatC xs)) (ρ lv ix).b ((ρ lv ix).o + s * w + j) u := cell_setCells hu (by rintro ⟨_, h3, h4⟩; omega)
      unfold cellP at this; rw [this]; rfl

/-- Append into a new array. -/
theorem app_new (h : Rel W0 B0 st ρ W) {lv ix w ver c : Nat} {es es' : List AV} {xs : List Value} {cs : Array Value} {elem : TypeId} (hg : st.get lv ix = some (.arr w ver es))
    (hp : st.put lv ix (.arr w (ver + 1) es') = some st') (hx : RL (cx st ρ W lv) es' xs) (hw : ∀ x ∈ xs, x.cells.size = w) (hc : es'.length ≤ c) (hcs : c * w ≤ cs.size)
    (hl : ∀ i x, xs[i]? = some x → ∀ j v, x.cells[j]? = some v → cs[i * w + j]? = some v) :
    Goes W0 B0 st ρ W st' (upd ρ lv ix ⟨W.heap.size, 0, c⟩) (W.alloc (.cells cs elem)) := by
  have sh := Sh.of_put hp
  have k : Chg W0 B0 st ρ W lv ix (.arr w (ver + 1) es') st' (upd ρ lv ix ⟨W.heap.size, 0, c⟩) (W.alloc (.cells cs elem)) := by
    refine ⟨sh.get0, sh.get, fun _ _ hne => upd_ne _ _ _ _ hne, sh.len, sh.old, sh.ro, sh.cur, h.below.alloc h.b0 _, by simp, fun b o v hc _ => cell_alloc hc, fun b o hs => frozen_alloc hs,
      fun b en clock hb _ => maps_alloc hb, ?_, fun es he => by simp at he⟩
    intro w' ver' es1 he
    simp only [Blk.arr.injEq] at he
    obtain ⟨rfl, rfl, rfl⟩ := he
    refine ⟨.inr ⟨w, ver, es, hg, by omega, fun h => by omega⟩, fun j hj => .inl ?_⟩
    rw [upd_same]; exact no_cell (Nat.le_refl _)
  refine ⟨k.rel h ?_ (fun es he => by simp at he), k.ev h⟩
  intro w' ver' es1 he
  simp only [Blk.arr.injEq] at he
  obtain ⟨rfl, rfl, rfl⟩ := he
  rw [upd_same]
  refine ⟨hc, ?_, ?_⟩
  · intro i' e he
    obtain ⟨x, hx1, hx2⟩ := hx.get he
    refine ⟨x, hx2.mono (k.le h lv), hw x (List.mem_of_getElem? hx1), ?_⟩
    intro j v hv
    have := hl i' x hx1 j v hv
    unfold cellP
    simp only [Nat.zero_add]
    rw [World.cell?_alloc_new]; exact this
  · intro j hj
    have hjs : j < cs.size := by simp only at hj; omega
    refine ⟨h.b0, ?_, ?_⟩
    · simp only [Nat.zero_add]; rw [World.cell?_alloc_new, Array.getElem?_eq_getElem hjs]; rfl
    · simp only [Nat.zero_add]; exact World.frozen?_alloc_new _ _ _ _

/-- A map's block is changed. -/
theorem write_map (h : Rel W0 B0 st ρ W) {lv ix : Nat} {es es' : List (AV × AV)} {en : Array MapEntry} {clock : Nat} (hg : st.get lv ix = some (.map es)) (hp : st.put lv ix (.map es') = some st')
    (hs : en.size = es'.length) (he : ∀ (i : Nat) (k v : AV), es'[i]? = some (k, v) → isKey k = true ∧ ∃ x : MapEntry, en[i]? = some x ∧ R (cx st ρ W lv) k x.key ∧ R (cx st ρ W lv) v x.val) :
    Goes W0 B0 st ρ W st' ρ { W with heap := W.heap.setIfInBounds (ρ lv ix).b (.map en clock) } := by
  have sh := Sh.of_put hp
  obtain ⟨m1, en0, clock0, m2, m3, m4⟩ := h.map lv ix es hg
  have hlt : (ρ lv ix).b < W.heap.size := lt_of_getA m2
  have hcell : ∀ a, ({ W with heap := W.heap.setIfInBounds (ρ lv ix).b (.map en clock) } : World).cell? a = W.cell? a := by
    intro a
    by_cases e : (ρ lv ix).b = a.block
    · have h1 : (W.heap.setIfInBounds (ρ lv ix).b (.map en clock))[a.block]? = some (.map en clock) := by rw [← e]; simp [hlt]
      have h2 : W.heap[a.block]? = some (.map en0 clock0) := by rw [← e]; exact m2
      simp only [World.cell?, h1, h2]
    · have h1 : (W.heap.setIfInBounds (ρ lv ix).b (.map en clock))[a.block]? = W.heap[a.block]? := by simp [e]
      simp only [World.cell?, h1]
  have hfroz : ∀ a, ({ W with heap := W.heap.setIfInBounds (ρ lv ix).b (.map en clock) } : World).frozen? a = W.frozen? a := by
    intro a
    by_cases e : (ρ lv ix).b = a.block
    · have h1 : (W.heap.setIfInBounds (ρ lv ix).b (.map en clock))[a.block]? = some (.map en clock) := by rw [← e]; simp [hlt]
      have h2 : W.heap[a.block]? = some (.map en0 clock0) := by rw [← e]; exact m2
      simp only [World.frozen?, h1, h2]
    · have h1 : (W.heap.setIfInBounds (ρ lv ix).b (.map en clock))[a.block]? = W.heap[a.block]? := by simp [e]
      simp only [World.frozen?, h1]
  have k : Chg W0 B0 st ρ W lv ix (.map es') st' ρ { W with heap := W.heap.setIfInBounds (ρ lv ix).b (.map en clock) } := by
    refine ⟨sh.get0, sh.get, fun _ _ _ => rfl, sh.len, sh.old, sh.ro, sh.cur, ?_, by simp, fun b o v hc _ => by unfold cellP; rw [hcell]; exact hc, fun b o hs => hfroz _, ?_,
      fun w ver es he => by simp at he, fun es1 he => .inr ⟨⟨es, hg⟩, rfl⟩⟩
    · refine h.below.trans ⟨rfl, rfl, rfl, by simp, fun i hi => ?_⟩
      simp only [Array.getElem?_setIfInBounds]
      rw [if_neg (by omega)]
    · intro b en1 clock1 hb hne
      simp only [Array.getElem?_setIfInBounds]
      rw [if_neg (fun e => hne es hg e.symm)]
      exact hb
  refine ⟨k.rel h (fun w ver es he => by simp at he) ?_, k.ev h⟩
  intro es1 he1
  simp only [Blk.map.injEq] at he1
  subst he1
  refine ⟨m1, en, clock, by simp [hlt], hs, fun i kk v hk => ?_⟩
  obtain ⟨n1, x, n2, n3, n4⟩ := he i kk v hk
  exact ⟨n1, x, n2, n3.mono (k.le h lv), n4.mono (k.le h lv)⟩

end
end Go.QAbs
