/- A block that is filled into a hole of an older region is nothing to what runs. No condition. -/
import Derived.Test.YtmkjnglbfgajbaaQP3
namespace Go.QAbs
set_option linter.unusedVariables false
set_option linter.unusedSimpArgs false
set_option linter.unusedVariables false

theorem mapSt_id {f : St → AV → Option (AV × St)} {st : St} : ∀ {es : List AV}, (∀ v, v ∈ es → f st v = some (v, st)) → mapSt f st es = some (es, st)
  | [], _ => rfl
  | v :: vs, h => by
    have ih : mapSt f st vs = some (vs, st) := mapSt_id (fun u hu => h u (List.mem_cons_of_mem _ hu))
    simp only [mapSt, h v (List.mem_cons_self ..), Option.bind_some, ih, consK]

theorem seal_imm : ∀ {n b : Nat} {st : St} {v : AV}, imm n v = true → sealV n b st v = some (v, st)
  | 0, _, _, _, h => by simp [imm] at h
  | n + 1, b, st, v, h => by
    cases v <;> first
      | (simp only [imm, Bool.false_eq_true] at h; done)
      | (simp only [imm, List.all_eq_true] at h
         simp only [sealV, mapSt_id (fun u hu => seal_imm (h u hu)), Option.bind_some, aggK, tupK]; done)
      | (simp only [sealV]; done)

def holeTag : Blk → Option Nat
  | .hole j => some j
  | _ => none

def tags (L : List Blk) : List (Option Nat) := L.map holeTag
def tagsA (A : List (Bool × List Blk)) : List (Bool × List (Option Nat)) := A.map fun r => (r.1, tags r.2)

/-- There is a hole at that place of the older regions. -/
def HoleIn (A : List (Bool × List Blk)) (M i : Nat) : Prop := ∃ r j, A[M]? = some r ∧ r.2[i]? = some (.hole j)

theorem HoleIn.of_tags {A A' : List (Bool × List Blk)} {M i : Nat} (h : HoleIn A M i) (ht : tagsA A' = tagsA A) : HoleIn A' M i := by
  obtain ⟨r, j, h1, h2⟩ := h
  have e1 : (tagsA A)[M]? = some (r.1, tags r.2) := by unfold tagsA; rw [List.getElem?_map, h1]; rfl
  rw [← ht] at e1
  unfold tagsA at e1
  rw [List.getElem?_map, Option.map_eq_some_iff] at e1
  obtain ⟨r', h3, h4⟩ := e1
  have e2 : (tags r.2)[i]? = some (some j) := by unfold tags; rw [List.getElem?_map, h2]; rfl
  simp only [Prod.mk.injEq] at h4
  rw [← h4.2] at e2
  unfold tags at e2
  rw [List.getElem?_map, Option.map_eq_some_iff] at e2
  obtain ⟨b, h5, h6⟩ := e2
  cases b <;> simp [holeTag] at h6
  subst h6
  exact ⟨r', _, h3, h5⟩

def fillA (M i : Nat) (B : Blk) (A : List (Bool × List Blk)) : List (Bool × List Blk) := A.modify M fun r => (r.1, r.2.set i B)
def St.fillA (M i : Nat) (B : Blk) (st : St) : St := { st with A := QAbs.fillA M i B st.A }

theorem fillA_length (M i : Nat) (B : Blk) (A : List (Bool × List Blk)) : (fillA M i B A).length = A.length := by simp [fillA]

theorem fillA_get (M i : Nat) (B : Blk) (A : List (Bool × List Blk)) (lv : Nat) : (fillA M i B A)[lv]? = (A[lv]?).map fun r => if M = lv then (r.1, r.2.set i B) else r := by
  unfold fillA
  rw [List.getElem?_modify]
  cases A[lv]? <;> simp

theorem fill_more {st : St} {M i : Nat} {B : Blk} (h : HoleIn st.A M i) : More st (st.fillA M i B) := by
  obtain ⟨r, j, h1, h2⟩ := h
  intro lv ix b hb
  unfold St.get at hb ⊢
  simp only [St.fillA, fillA_length, fillA_get]
  split at hb
  · rename_i hl; rw [if_pos hl]; exact hb
  · rename_i hl
    rw [if_neg hl]
    simp only [Option.bind_eq_some_iff] at hb
    obtain ⟨r', h3, h4⟩ := hb
    rw [h3, Option.map_some, Option.bind_some]
    by_cases hM : M = lv
    · subst hM
      rw [if_pos rfl]
      rw [h1] at h3
      simp only [Option.some.injEq] at h3; subst h3
      have hne : i ≠ ix := by
        intro q; subst q
        rw [h2] at h4; simp [vis] at h4
      simp only [List.getElem?_set_ne hne]
      exact h4
    · rw [if_neg hM]; exact h4

/-! ### What keeps to the current region -/

def LO {α : Type} (F : St → Option (α × St)) : Prop := ∀ (A A' : List (Bool × List Blk)) (ro : Bool) (L : List Blk) (r : α × St), A'.length = A.length → F ⟨A, ro, L⟩ = some r → r.2.A = A ∧ F ⟨A', ro, L⟩ = some (r.1, ⟨A', r.2.ro, r.2.L⟩)

/-- What goes on as before where a hole is filled. -/
def FrP {α : Type} (F : St → Option (α × St)) : Prop := ∀ (st : St) (r : α × St), F st = some r → tagsA r.2.A = tagsA st.A ∧ ∀ M i B, HoleIn st.A M i → F (st.fillA M i B) = some (r.1, r.2.fillA M i B)

theorem LO.fr {α : Type} {F : St → Option (α × St)} (h : LO F) : FrP F := by
  rintro ⟨A, ro, L⟩ r hr
  obtain ⟨h1, _⟩ := h A A ro L r rfl hr
  refine ⟨by rw [h1], fun M i B hh => ?_⟩
  obtain ⟨_, h2⟩ := h A (fillA M i B A) ro L r (fillA_length _ _ _ _) hr
  obtain ⟨v, ⟨A2, ro2, L2⟩⟩ := r
  simp only at h1; subst h1
  exact h2

theorem FrP.ret {α : Type} (v : α) : FrP fun st => some (v, st) := by
  intro st r h
  simp only [Option.some.injEq] at h; subst h
  exact ⟨rfl, fun _ _ _ _ => rfl⟩

theorem FrP.nope {α : Type} : FrP (α := α) fun _ => none := fun st r h => by simp at h

theorem FrP.bind {α β : Type} {F : St → Option (α × St)} {G : α → St → Option (β × St)} (h : FrP F) (k : ∀ v, FrP (G v)) : FrP fun st => (F st).bind fun r => G r.1 r.2 := by
  intro st r hr
  simp only [Option.bind_eq_some_iff] at hr
  obtain ⟨q, hq, hr⟩ := hr
  obtain ⟨h1, h2⟩ := h st q hq
  obtain ⟨k1, k2⟩ := k q.1 q.2 r hr
  refine ⟨k1.trans h1, fun M i B hh => ?_⟩
  simp only [h2 M i B hh, Option.bind_some]
  exact k2 M i B (hh.of_tags h1)

theorem LO.ret {α : Type} (v : α) : LO fun st => some (v, st) := by
  intro A A' ro L r _ h
  simp only [Option.some.injEq] at h; subst h
  exact ⟨rfl, rfl⟩

theorem LO.bind {α β : Type} {F : St → Option (α × St)} {G : α → St → Option (β × St)} (h : LO F) (k : ∀ v, LO (G v)) : LO fun st => (F st).bind fun r => G r.1 r.2 := by
  intro A A' ro L r hl hr
  simp only [Option.bind_eq_some_iff] at hr
  obtain ⟨⟨v, A1, ro1, L1⟩, hq, hr⟩ := hr
  obtain ⟨h1, h2⟩ := h A A' ro L _ hl hq
  simp only at h1; subst h1
  obtain ⟨k1, k2⟩ := k v A1 A' ro1 L1 r hl hr
  refine ⟨k1, ?_⟩
  simp only [h2, Option.bind_some]
  exact k2

theorem LO.cond {α : Type} {c : Prop} [Decidable c] {F G : St → Option (α × St)} (h : LO F) (k : LO G) : LO fun st => if c then F st else G st := by
  by_cases hc : c
  · simp only [if_pos hc]; exact h
  · simp only [if_neg hc]; exact k

theorem LO.nope {α : Type} : LO (α := α) fun _ => none := fun A A' ro L r _ h => by simp at h

theorem LO.new (b : Blk) : LO fun st => st.new b := by
  intro A A' ro L r hl h
  simp only [St.new] at h ⊢
  split at h
  · simp at h
  · rename_i hro
    simp only [Option.some.injEq] at h; subst h
    rw [if_neg hro]
    exact ⟨rfl, rfl⟩

theorem LO.opt {α β : Type} {q : Option α} {G : α → St → Option (β × St)} (k : ∀ v, LO (G v)) : LO fun st => q.bind fun v => G v st := by
  cases q with
  | none => exact LO.nope
  | some v => exact k v

theorem LO.mapSt {f : St → AV → Option (AV × St)} (h : ∀ v, LO fun st => f st v) : ∀ vs, LO fun st => mapSt f st vs
  | [] => LO.ret []
  | v :: vs => LO.bind (F := fun st => f st v) (G := fun x st => (QAbs.mapSt f st vs).bind (consK x)) (h v) fun x => LO.bind (F := fun st => QAbs.mapSt f st vs) (G := fun l st => some (x :: l, st)) (LO.mapSt h vs) fun l => LO.ret _

theorem LO.seal : ∀ (n b : Nat) (v : AV), LO fun st => sealV n b st v
  | 0, b, v => LO.nope
  | n + 1, b, v => by
    cases v with
    | ptr lv ix ver i o => exact LO.cond (F := fun st => some (AV.ptr lv ix ver i o, st)) (LO.ret _) LO.nope
    | map lv ix => exact LO.cond (F := fun st => some (AV.map lv ix, st)) (LO.ret _) LO.nope
    | ref lv ix ver s m =>
      intro A A' ro L r hl h
      simp only [sealV] at h ⊢
      split at h
      · rename_i hc
        simp only [Option.some.injEq] at h; subst h
        rw [if_pos hc]
        exact ⟨rfl, rfl⟩
      · rename_i hc
        rw [if_neg hc]
        split at h
        · rename_i hd
          rw [if_pos (by rw [hl]; exact hd)]
          exact (LO.opt (q := refB ver s m L[ix]?) (G := fun es st => (QAbs.mapSt (sealV n 0) st es).bind litK) fun es => LO.bind (G := fun l st => some (AV.lit l, st)) (LO.mapSt (fun v => LO.seal n 0 v) es) fun l => LO.ret _) A A' ro (L.set ix .dead) r hl h
        · simp at h
    | agg cs => exact LO.bind (G := fun l st => some (AV.agg l, st)) (LO.mapSt (fun v => LO.seal n b v) cs) fun l => LO.ret _
    | tup cs => exact LO.bind (G := fun l st => some (AV.tup l, st)) (LO.mapSt (fun v => LO.seal n b v) cs) fun l => LO.ret _
    | func fn f c => exact LO.bind (G := fun l st => (QAbs.mapSt (sealV n b) st c).bind fun q => some (AV.func fn l q.1, q.2)) (LO.mapSt (fun v => LO.seal n b v) f) fun l => LO.bind (G := fun q st => some (AV.func fn l q, st)) (LO.mapSt (fun v => LO.seal n b v) c) fun q => LO.ret _
    | iface t x => exact LO.bind (G := fun l st => some (AV.iface t l, st)) (LO.seal n b x) fun l => LO.ret _
    | nils => exact LO.ret (AV.lit [])
    | _ => exact LO.ret (α := AV) _

/-! ### Reads and writes -/

theorem FrP.read {α : Type} {q : St → Option α} (h : ∀ s t v, More s t → q s = some v → q t = some v) : FrP fun st => (q st).bind fun v => some (v, st) := by
  intro st r hr
  simp only [Option.bind_eq_some_iff, Option.some.injEq] at hr
  obtain ⟨v, hv, rfl⟩ := hr
  refine ⟨rfl, fun M i B hh => ?_⟩
  simp only [h _ _ _ (fill_more hh) hv, Option.bind_some]

theorem set_tags {L : List Blk} {ix : Nat} {b0 b : Blk} (h : L[ix]? = some b0) (h0 : holeTag b0 = holeTag b) : tags (L.set ix b) = tags L := by
  apply List.ext_getElem?
  intro i
  simp only [tags, List.getElem?_map, List.getElem?_set]
  split
  · rename_i hi
    subst hi
    rw [if_pos (lt_of_get h), h]
    simp [h0]
  · rfl

theorem put_fr {st st' : St} {lv ix : Nat} {b0 b : Blk} (hg : st.get lv ix = some b0) (hb : holeTag b = none) (h : st.put lv ix b = some st') :
    tagsA st'.A = tagsA st.A ∧ ∀ M i B, HoleIn st.A M i → (st.fillA M i B).put lv ix b = some (st'.fillA M i B) := by
  unfold St.put at h
  unfold St.get at hg
  split at h
  · rename_i hl
    split at h
    · simp at h
    · rename_i hro
      split at h
      · rename_i hix
        simp only [Option.some.injEq] at h; subst h
        refine ⟨rfl, fun M i B hh => ?_⟩
        subst hl
        simp [St.put, St.fillA, fillA_length, hro, hix]
      · simp at h
  · rename_i hl
    rw [if_neg hl] at hg
    simp only [Option.bind_eq_some_iff] at hg
    obtain ⟨r, hA, hv⟩ := hg
    have hv1 := vis_get hv
    have h0 : holeTag b0 = none := by
      cases b0 <;> first | rfl | (rw [hv1] at hv; simp [vis] at hv)
    obtain ⟨ro, bs⟩ := r
    rw [hA] at h
    cases ro with
    | true => simp [putOld] at h
    | false =>
      simp only [putOld] at h
      split at h
      · rename_i hix
        simp only [Option.some.injEq] at h; subst h
        have hlt := lt_of_get hA
        refine ⟨?_, fun M i B hh => ?_⟩
        · apply List.ext_getElem?
          intro k
          simp only [tagsA, List.getElem?_map, List.getElem?_set]
          split
          · rename_i hk
            subst hk
            first | rw [if_pos hlt, hA] | rw [hA]
            simp only [Option.map_some]
            rw [set_tags hv1 (by rw [h0, hb])]
          · rfl
        · obtain ⟨r, j, h1, h2⟩ := hh
          simp only [St.put, St.fillA, fillA_length]
          rw [if_neg hl, fillA_get, hA]
          simp only [Option.map_some]
          by_cases hM : M = lv
          · subst hM
            rw [if_pos rfl]
            rw [hA] at h1
            simp only [Option.some.injEq] at h1; subst h1
            have hne : i ≠ ix := by
              intro q; subst q
              rw [h2] at hv1
              simp only [Option.some.injEq] at hv1
              rw [← hv1] at h0; simp [holeTag] at h0
            simp only [putOld, List.length_set, if_pos hix, Option.some.injEq, St.mk.injEq, and_true]
            apply List.ext_getElem?
            intro k
            simp only [List.getElem?_set, fillA_get, fillA_length]
            by_cases hk : M = k
            · subst hk
              simp only [if_true, if_pos hlt, Option.map_some]
              rw [List.set_comm _ _ hne]
            · simp only [if_neg hk]
          · rw [if_neg hM]
            simp only [putOld, if_pos hix, Option.some.injEq, St.mk.injEq, and_true]
            apply List.ext_getElem?
            intro k
            simp only [List.getElem?_set, fillA_get, fillA_length]
            by_cases hk : lv = k
            · subst hk
              simp only [if_true, if_pos hlt, Option.map_some, if_neg hM]
            · simp only [if_neg hk]
      · simp at h

/-- A write behind a look. -/
theorem FrP.upd {α : Type} {lv ix : Nat} {q : Option Blk → Option (Blk × α)} (h0 : q none = none) (hq : ∀ b r, q b = some r → holeTag r.1 = none) : FrP fun st => (q (st.get lv ix)).bind fun r => (st.put lv ix r.1).bind fun st' => some (r.2, st') := by
  intro st r hr
  simp only [Option.bind_eq_some_iff, Option.some.injEq] at hr
  obtain ⟨⟨b, a⟩, h1, st', h2, rfl⟩ := hr
  cases hg : st.get lv ix with
  | none => rw [hg, h0] at h1; simp at h1
  | some b0 =>
    obtain ⟨k1, k2⟩ := put_fr hg (hq _ _ h1) h2
    refine ⟨k1, fun M i B hh => ?_⟩
    have := fill_more (B := B) hh lv ix b0 hg
    simp only [this, ← hg, h1, Option.bind_some, k2 M i B hh]

theorem FrP.congr {α : Type} {F G : St → Option (α × St)} (h : FrP F) (e : ∀ st, G st = F st) : FrP G := by
  have : G = F := funext e
  rw [this]; exact h

end Go.QAbs
