/- Two operations that may go in either order; an operation that goes first. No condition. -/
import Derived.Test.YtmkjnglbfgajbaaQR2
namespace Go.QAbs
set_option linter.unusedVariables false
set_option linter.unusedSimpArgs false

theorem findH_some {j : Nat} : ∀ {L : List Blk} {i : Nat}, findH j L = some i → L[i]? = some (.hole j)
  | [], i, h => by simp [findH] at h
  | b :: L, i, h => by
    simp only [findH] at h
    split at h
    · rename_i k hk
      simp only [Option.some.injEq] at h; subst h
      simpa using findH_some hk
    · split at h
      · split at h
        · rename_i hk
          simp only [Option.some.injEq] at h; subst h
          simp [hk]
        · simp at h
      · simp at h

theorem findH_tags {j : Nat} : ∀ {L L' : List Blk}, tags L = tags L' → findH j L = findH j L'
  | [], [], _ => rfl
  | [], b :: L, h => by simp [tags] at h
  | b :: L, [], h => by simp [tags] at h
  | b :: L, b' :: L', h => by
    simp only [tags, List.map_cons, List.cons.injEq] at h
    have ih := findH_tags (j := j) (L := L) (L' := L') h.2
    have hb := h.1
    simp only [findH, ih]
    cases b <;> cases b' <;> simp [holeTag] at hb <;> first | rfl | (subst hb; rfl)

theorem findH_set {j : Nat} : ∀ {L : List Blk} {a : Nat} {b : Blk}, L[a]? ≠ some (.hole j) → b ≠ .hole j → findH j (L.set a b) = findH j L
  | [], a, b, _, _ => rfl
  | c :: L, 0, b, h, hb => by
    simp only [List.set_cons_zero, findH]
    have h' : c ≠ .hole j := by simpa using h
    cases findH j L with
    | some i => rfl
    | none =>
      simp only
      have e1 : ∀ d : Blk, d ≠ .hole j → (match d with | .hole k => if k = j then some 0 else none | _ => none : Option Nat) = none := by
        intro d hd
        cases d <;> first | rfl | (simp only; rw [if_neg (fun q => hd (by rw [q]))])
      exact (e1 b hb).trans (e1 c h').symm
  | c :: L, a + 1, b, h, hb => by
    have h' : L[a]? ≠ some (.hole j) := by simpa using h
    simp only [List.set_cons_succ, findH, findH_set h' hb]

theorem Adds.of_fill {s : St} {i j : Nat} {b : Blk} (h : s.L[i]? = some (.hole j)) : Adds s { s with L := s.L.set i b } := by
  have key : ∀ (A : List (Bool × List Blk)) (ro : Bool) lv ix c, St.get ⟨A, ro, s.L⟩ lv ix = some c → St.get ⟨A, ro, s.L.set i b⟩ lv ix = some c := by
    intro A ro lv ix c hc
    unfold St.get at hc ⊢
    simp only at hc ⊢
    split at hc
    · rename_i h1
      rw [if_pos h1]
      have hne : i ≠ ix := by
        intro q; subst q
        rw [h] at hc; simp [vis] at hc
      rw [List.getElem?_set_ne hne]; exact hc
    · rename_i h1; rw [if_neg h1]; exact hc
  exact ⟨fun lv ix c hc => key s.A s.ro lv ix c hc, fun lv ix c hc => key _ true lv ix c hc⟩

section
variable {O : Orc} {x p : PI} {e : Env} {s s' : St} {v : AV}

theorem More.refl (s : St) : More s s := fun _ _ _ h => h

theorem own_at (hk : x.own = true) (h : evalI O e s x = some (v, s')) : s' = s ∧ ∀ t, More s.mask t.mask → evalI O e t x = some (v, t) := by
  unfold evalI at h
  rw [if_pos hk] at h
  split at h
  · rename_i hr
    simp only [Option.bind_eq_some_iff, pureK, Option.some.injEq, Prod.mk.injEq] at h
    obtain ⟨⟨v0, s0⟩, h0, h1, rfl⟩ := h
    simp only at h1; subst h1
    refine ⟨rfl, fun t m => ?_⟩
    unfold evalI
    rw [if_pos hk, if_pos hr, (reads_mono hr m h0).1]
    rfl
  · simp at h

theorem evalI_plain (hk : ¬ x.own = true) (hc : ∀ m f l, x.op ≠ .call m f l) (hw : ∀ k o, x.op ≠ .w k o) (s : St) : evalI O e s x = evalPO e s x.op := by
  unfold evalI
  rw [if_neg hk]
  cases hx : x.op <;> first | rfl | exact absurd hx (hc _ _ _) | exact absurd hx (hw _ _)

theorem kind_at (h : evalI O e s x = some (v, s')) :
    (x.kind = 0 → s' = s ∧ ∀ t, evalI O e t x = some (v, t)) ∧ (x.kind = 1 → s' = s ∧ ∀ t, More s t → evalI O e t x = some (v, t)) ∧
    (x.kind = 2 → s' = s ∧ ∀ t, More s.mask t.mask → evalI O e t x = some (v, t)) ∧ (x.kind = 3 → Adds s s') ∧ (x.kind = 4 → s' = s) ∧ (x.kind = 5 → s'.mask = s.mask) := by
  by_cases hk : x.own = true
  · have hkind : x.kind = 2 := by unfold PI.kind; rw [if_pos hk]
    rw [hkind]
    exact ⟨by simp, by simp, fun _ => own_at hk h, by simp, by simp, by simp⟩
  · by_cases hp : x.op.pure = true
    · have hkind : x.kind = 0 := by unfold PI.kind; rw [if_neg hk, if_pos hp]
      rw [hkind]
      have hc : ∀ m f l, x.op ≠ .call m f l := fun m f l q => by rw [q] at hp; simp [PO.pure] at hp
      have hw : ∀ k o, x.op ≠ .w k o := fun k o q => by rw [q] at hp; simp [PO.pure] at hp
      rw [evalI_plain hk hc hw] at h
      exact ⟨fun _ => ⟨(pure_at (t := s) hp h).2, fun t => by rw [evalI_plain hk hc hw]; exact (pure_at hp h).1⟩, by simp, by simp, by simp, by simp, by simp⟩
    · by_cases hr : x.op.reads = true
      · have hc : ∀ m f l, x.op ≠ .call m f l := fun m f l q => by rw [q] at hr; simp [PO.reads] at hr
        have hw : ∀ k o, x.op ≠ .w k o := fun k o q => by rw [q] at hr; simp [PO.reads] at hr
        have hkind : x.kind = 1 := by unfold PI.kind; rw [if_neg hk, if_neg hp, if_pos hr]
        rw [hkind]
        rw [evalI_plain hk hc hw] at h
        exact ⟨by simp, fun _ => ⟨(reads_mono hr (.refl s) h).2, fun t m => by rw [evalI_plain hk hc hw]; exact (reads_mono hr m h).1⟩, by simp, by simp, by simp, by simp⟩
      · by_cases ha : x.op.adds = true
        · have hc : ∀ m f l, x.op ≠ .call m f l := fun m f l q => by rw [q] at ha; simp [PO.adds] at ha
          have hw : ∀ k o, x.op ≠ .w k o := fun k o q => by rw [q] at ha; simp [PO.adds] at ha
          have hkind : x.kind = 3 := by unfold PI.kind; rw [if_neg hk, if_neg hp, if_neg hr, if_pos ha]
          rw [hkind]
          rw [evalI_plain hk hc hw] at h
          exact ⟨by simp, by simp, by simp, fun _ => adds_ok ha h, by simp, by simp⟩
        · have hkind : x.kind = callKind x.op := by unfold PI.kind; rw [if_neg hk, if_neg hp, if_neg hr, if_neg ha]
          unfold evalI at h
          rw [if_neg hk] at h
          cases hx : x.op with
          | call m f l =>
            rw [hx] at h hkind
            simp only [evalPI] at h
            unfold callV at h
            split at h
            · cases m with
              | pin =>
                rw [show x.kind = 4 from hkind]
                simp only [callM, Option.bind_eq_some_iff, pureK, Option.some.injEq, Prod.mk.injEq] at h
                obtain ⟨q, _, _, rfl⟩ := h
                exact ⟨by simp, by simp, by simp, by simp, fun _ => rfl, by simp⟩
              | move => rw [show x.kind = 6 from hkind]; exact ⟨by simp, by simp, by simp, by simp, by simp, by simp⟩
              | inner => rw [show x.kind = 6 from hkind]; exact ⟨by simp, by simp, by simp, by simp, by simp, by simp⟩
              | norm => rw [show x.kind = 6 from hkind]; exact ⟨by simp, by simp, by simp, by simp, by simp, by simp⟩
              | pure =>
                rw [show x.kind = 4 from hkind]
                simp only [callM, Option.bind_eq_some_iff, pureK, Option.some.injEq, Prod.mk.injEq] at h
                obtain ⟨q, _, _, rfl⟩ := h
                exact ⟨by simp, by simp, by simp, by simp, fun _ => rfl, by simp⟩
              | own =>
                rw [show x.kind = 5 from hkind]
                simp only [callM, Option.bind_eq_some_iff, ownK] at h
                obtain ⟨q, _, h⟩ := h
                split at h
                · rename_i hl
                  simp only [Option.some.injEq, Prod.mk.injEq] at h
                  obtain ⟨_, rfl⟩ := h
                  refine ⟨by simp, by simp, by simp, by simp, by simp, fun _ => ?_⟩
                  simp only [St.mask]
                  congr 1
                  apply List.ext_getElem?
                  intro i
                  simp only [List.getElem?_map]
                  by_cases hi : i < s.A.length
                  · rw [List.getElem?_eq_getElem hi, List.getElem?_eq_getElem (by omega)]; rfl
                  · rw [List.getElem?_eq_none (by omega), List.getElem?_eq_none (by omega)]
                · simp at h
            · simp at h
          | w k o =>
            rw [hx] at h hkind
            have hev : ∀ t, evalI O e t x = evalW e t o k := fun t => by
              unfold evalI
              rw [if_neg hk, hx]; rfl
            cases k with
            | blind =>
              rw [show x.kind = 0 from hkind]
              simp only [evalPI, evalW] at h
              split at h
              · rename_i hr
                simp only [Option.bind_eq_some_iff, pureK, Option.some.injEq, Prod.mk.injEq] at h
                obtain ⟨q, hq, rfl, rfl⟩ := h
                exact ⟨fun _ => ⟨rfl, fun t => by rw [hev]; simp only [evalW, if_pos hr, hq, Option.bind_some, pureK]⟩, by simp, by simp, by simp, by simp, by simp⟩
              · simp at h
            | imm =>
              rw [show x.kind = 0 from hkind]
              simp only [evalPI, evalW] at h
              unfold immW at h
              split at h
              · rename_i w z ps
                simp only [Option.bind_eq_some_iff, immK] at h
                obtain ⟨es, he, h⟩ := h
                split at h
                · rename_i hi
                  simp only [Option.some.injEq, Prod.mk.injEq] at h
                  obtain ⟨rfl, rfl⟩ := h
                  exact ⟨fun _ => ⟨rfl, fun t => by rw [hev]; simp only [evalW, immW, he, Option.bind_some, immK, if_pos hi]⟩, by simp, by simp, by simp, by simp, by simp⟩
                · simp at h
              · simp at h
            | app0 =>
              rw [show x.kind = 3 from hkind]
              simp only [evalPI, evalW] at h
              unfold app0W at h
              split at h
              · rename_i w bytes sl x'
                split at h
                · rename_i hn
                  simp only [evalPO, Option.bind_eq_some_iff] at h
                  obtain ⟨ys, _, h⟩ := h
                  cases hsv : sl.get e <;> rw [hsv] at hn h <;> simp only [isNils, Bool.false_eq_true] at hn
                  simp only [appendV] at h
                  split at h
                  · simp only [Option.bind_eq_some_iff, newRefK, Option.some.injEq, Prod.mk.injEq] at h
                    obtain ⟨⟨i, s1⟩, hnw, _, rfl⟩ := h
                    exact ⟨by simp, by simp, by simp, fun _ => .of_new hnw, by simp, by simp⟩
                  · simp at h
                · simp at h
              · simp at h
            | hide as =>
              rw [show x.kind = 1 from hkind]
              simp only [evalPI, evalW] at h
              split at h
              · rename_i hr
                simp only [Option.bind_eq_some_iff, pureK, Option.some.injEq, Prod.mk.injEq] at h
                obtain ⟨⟨q1, q2⟩, hq, rfl, rfl⟩ := h
                refine ⟨by simp, fun _ => ⟨rfl, fun t m => ?_⟩, by simp, by simp, by simp, by simp⟩
                rw [hev]
                simp only [evalW, if_pos hr, (reads_mono hr (m.hide2 _) hq).1, Option.bind_some, pureK]
              · simp at h
            | plain b => rw [show x.kind = 6 from hkind]; exact ⟨by simp, by simp, by simp, by simp, by simp, by simp⟩
            | here j =>
              rw [show x.kind = 3 from hkind]
              simp only [evalPI, evalW, Option.bind_eq_some_iff, hereV] at h
              obtain ⟨b, hb, h⟩ := h
              split at h
              · simp only [Option.bind_eq_some_iff, fillK, Option.some.injEq, Prod.mk.injEq] at h
                obtain ⟨i, hi, _, rfl⟩ := h
                exact ⟨by simp, by simp, by simp, fun _ => .of_fill (findH_some hi), by simp, by simp⟩
              · simp at h
          | _ => rw [hx] at hkind; rw [show x.kind = 6 from hkind]; exact ⟨by simp, by simp, by simp, by simp, by simp, by simp⟩

theorem kind_val (h : valI O x e s = some (v, s')) :
    (x.kind = 0 → s' = s ∧ ∀ t, valI O x e t = some (v, t)) ∧ (x.kind = 1 → s' = s ∧ ∀ t, More s t → valI O x e t = some (v, t)) ∧
    (x.kind = 2 → s' = s ∧ ∀ t, More s.mask t.mask → valI O x e t = some (v, t)) ∧ (x.kind = 3 → Adds s s') ∧ (x.kind = 4 → s' = s) ∧ (x.kind = 5 → s'.mask = s.mask) := by
  unfold valI at h ⊢
  simp only [Option.bind_eq_some_iff] at h
  obtain ⟨b, hb, h⟩ := h
  rw [hb]
  simp only [Option.bind_some]
  cases b with
  | true => exact kind_at h
  | false =>
    simp only [stepT, Option.some.injEq, Prod.mk.injEq] at h
    obtain ⟨rfl, rfl⟩ := h
    exact ⟨fun _ => ⟨rfl, fun _ => rfl⟩, fun _ => ⟨rfl, fun _ _ => rfl⟩, fun _ => ⟨rfl, fun _ _ => rfl⟩, fun _ => ⟨.refl _, .refl _⟩, fun _ => rfl, fun _ => rfl⟩

theorem still_val (hk : stillK x.kind = true) (h : valI O x e s = some (v, s')) : s' = s := by
  obtain ⟨h0, h1, h2, _, h4, _⟩ := kind_val h
  unfold stillK at hk
  split at hk
  · rename_i q; exact (h0 q).1
  · rename_i q; exact (h1 q).1
  · rename_i q; exact (h2 q).1
  · rename_i q; exact h4 q
  · simp at hk

/-- The first goes behind the second. -/
theorem val_comm {e1 e2 : Env} {s1 s2 : St} {w : AV} (hc : commK x.kind p.kind = true) (hx : valI O x e s = some (v, s1)) (hp : valI O p e1 s1 = some (w, s2))
    (h1 : ∀ t, valI O p e1 t = valI O p e t) (h2 : ∀ t, valI O x e2 t = valI O x e t) : ∃ s1', valI O p e s = some (w, s1') ∧ valI O x e2 s1' = some (v, s2) := by
  obtain ⟨x0, x1, x2, x3, x4, x5⟩ := kind_val hx
  obtain ⟨p0, p1, p2, p3, p4, p5⟩ := kind_val hp
  simp only [commK, Bool.or_eq_true, Bool.and_eq_true, beq_iff_eq] at hc
  rcases hc with ((((hc | hc) | ⟨hc, hc'⟩) | ⟨hc | hc, hc'⟩) | ⟨hc, hc'⟩) | ⟨hc, hc'⟩
  · obtain ⟨rfl, q⟩ := x0 hc
    exact ⟨s2, by rw [← h1]; exact hp, by rw [h2]; exact q _⟩
  · obtain ⟨rfl, q⟩ := p0 hc
    exact ⟨s, by rw [← h1]; exact q _, by rw [h2]; exact hx⟩
  · have e1 := still_val hc hx; subst e1
    have e2 := still_val hc' hp; subst e2
    exact ⟨_, by rw [← h1]; exact hp, by rw [h2]; exact hx⟩
  · obtain ⟨rfl, q⟩ := x1 hc
    exact ⟨s2, by rw [← h1]; exact hp, by rw [h2]; exact q _ (p3 hc').more⟩
  · obtain ⟨rfl, q⟩ := x2 hc
    exact ⟨s2, by rw [← h1]; exact hp, by rw [h2]; exact q _ (p3 hc').mask⟩
  · obtain ⟨rfl, q⟩ := x2 hc
    exact ⟨s2, by rw [← h1]; exact hp, by rw [h2]; exact q _ (by rw [p5 hc']; exact .refl _)⟩
  · obtain ⟨rfl, q⟩ := p2 hc'
    exact ⟨s, by rw [← h1]; exact q _ (by rw [x5 hc]; exact .refl _), by rw [h2]; exact hx⟩

theorem evalI_w {k : WK} {o : PO} (hk : x.own = false) (hx : x.op = .w k o) (t : St) : evalI O e t x = evalW e t o k := by
  unfold evalI
  rw [if_neg (by rw [hk]; simp), hx]; rfl

theorem plain_inv {b : Opd} {o : PO} (h : evalW e s o (.plain b) = some (v, s')) : ∃ lv ix ver i of, b.get e = .ptr lv ix ver i of ∧ ∀ lv' ix', ¬ (lv' = lv ∧ ix' = ix) → s'.get lv' ix' = s.get lv' ix' := by
  simp only [evalW] at h
  unfold plainW at h
  split at h
  · rename_i n a y
    split at h
    · rename_i hc
      obtain ⟨hsm, him⟩ := hc
      unfold sameBlk at hsm
      split at hsm
      · rename_i lv ix ver i of lv' ix' ver' i' of' ha hb
        simp only [Bool.and_eq_true, beq_iff_eq] at hsm
        obtain ⟨rfl, rfl⟩ := hsm
        refine ⟨_, _, _, _, _, hb, ?_⟩
        simp only [evalPO, ha, storeP, Option.bind_eq_some_iff, retU, Option.some.injEq, Prod.mk.injEq] at h
        obtain ⟨s2, ⟨⟨v2, s3⟩, h1, h2⟩, _, rfl⟩ := h
        have e3 : s3 = s := by
          have := seal_imm (n := deep) (b := lv + 1) (st := s) him
          rw [this] at h1
          simp only [Option.some.injEq, Prod.mk.injEq] at h1
          exact h1.2.symm
        subst e3
        simp only [storeK] at h2
        unfold storeB at h2
        split at h2
        · split at h2
          · simp only [Option.bind_eq_some_iff] at h2
            obtain ⟨e1, _, e2, _, h2⟩ := h2
            exact fun lv' ix' hne => (Sh.of_put h2).get lv' ix' hne
          · simp at h2
        · simp at h2
      · simp at hsm
    · simp at h
  · simp at h

theorem hide_in {as : List Opd} {b : Opd} (h : as.any (Opd.same b) = true) : ∀ {lv ix ver i of : Nat}, b.get e = .ptr lv ix ver i of → anyPtr (gets e as) lv ix = true := by
  intro lv ix ver i of hb
  induction as with
  | nil => simp at h
  | cons a as ih =>
    simp only [List.any_cons, Bool.or_eq_true] at h
    simp only [gets, anyPtr, List.any_cons, Bool.or_eq_true]
    rcases h with h | h
    · left
      unfold Opd.same at h
      split at h
      · rename_i t u
        simp only [beq_iff_eq] at h; subst h
        rw [hb]; simp [atPtr]
      · simp at h
    · right; exact ih h

theorem hide_keep {as : List Opd} {b : Opd} {o : PO} {w : AV} {q : PO} (hb : as.any (Opd.same b) = true) (hr : o.reads = true) (hp : evalW e s q (.plain b) = some (v, s')) :
    (∀ r t, evalPO e (s.hide (anyPtr (gets e as))) o = some (r, t) → ∃ t', evalPO e (s'.hide (anyPtr (gets e as))) o = some (r, t')) ∧ (∀ r t, evalPO e (s'.hide (anyPtr (gets e as))) o = some (r, t) → ∃ t', evalPO e (s.hide (anyPtr (gets e as))) o = some (r, t')) := by
  obtain ⟨lv, ix, ver, i, of, h1, h2⟩ := plain_inv hp
  have hP := hide_in hb h1
  have hg : ∀ lv' ix', (s'.hide (anyPtr (gets e as))).get lv' ix' = (s.hide (anyPtr (gets e as))).get lv' ix' := by
    intro lv' ix'
    rw [hide_get, hide_get]
    split
    · rfl
    · rename_i hn
      exact h2 lv' ix' (by rintro ⟨rfl, rfl⟩; exact hn hP)
  exact ⟨fun r t h => ⟨_, (reads_mono hr (fun lv' ix' c hc => by rw [hg]; exact hc) h).1⟩, fun r t h => ⟨_, (reads_mono hr (fun lv' ix' c hc => by rw [← hg]; exact hc) h).1⟩⟩

theorem here_inv {j : Nat} {o : PO} (h : evalW e s o (.here j) = some (v, s')) : ∃ b i, newOf e o = some b ∧ s.ro = false ∧ immB b.1 = true ∧ findH j s.L = some i ∧ v = b.2 s.A.length i ∧ s' = { s with L := s.L.set i b.1 } := by
  simp only [evalW, Option.bind_eq_some_iff, hereV] at h
  obtain ⟨b, hb, h⟩ := h
  split at h
  · rename_i hc
    simp only [Option.bind_eq_some_iff, fillK, Option.some.injEq, Prod.mk.injEq] at h
    obtain ⟨i, hi, rfl, rfl⟩ := h
    exact ⟨b, i, hb, hc.1, hc.2, hi, rfl, rfl⟩
  · simp at h

theorem here_mk {j i : Nat} {o : PO} {b : Blk × (Nat → Nat → AV)} (hb : newOf e o = some b) (hro : s.ro = false) (him : immB b.1 = true) (hf : findH j s.L = some i) : evalW e s o (.here j) = some (b.2 s.A.length i, { s with L := s.L.set i b.1 }) := by
  simp only [evalW, hb, Option.bind_some, hereV, if_pos (And.intro hro him), hf, fillK]

theorem immB_hole {b : Blk} (h : immB b = true) (j : Nat) : b ≠ .hole j := by
  rintro rfl; simp [immB] at h

/-- Pairs with a reason of their own. -/
theorem val_comm2 (hO : FrO O) {e1 e2 : Env} {s1 s2 : St} {w : AV} (ho : x.own = false ∧ p.own = false) (hc : commW x.op p.op = true) (hx : valI O x e s = some (v, s1)) (hp : valI O p e1 s1 = some (w, s2))
    (h1 : ∀ t, valI O p e1 t = valI O p e t) (h2 : ∀ t, valI O x e2 t = valI O x e t) : ∃ s1', valI O p e s = some (w, s1') ∧ valI O x e2 s1' = some (v, s2) := by
  rw [h1] at hp
  have hx' := hx
  have hp' := hp
  unfold valI at hx hp
  simp only [Option.bind_eq_some_iff] at hx hp
  obtain ⟨bx, hbx, hx⟩ := hx
  obtain ⟨bp, hbp, hp⟩ := hp
  have vx : ∀ t, valI O x e t = stepT O x e t bx := fun t => by unfold valI; rw [hbx]; rfl
  have vp : ∀ t, valI O p e t = stepT O p e t bp := fun t => by unfold valI; rw [hbp]; rfl
  cases bx with
  | false =>
    simp only [stepT, Option.some.injEq, Prod.mk.injEq] at hx
    obtain ⟨rfl, rfl⟩ := hx
    exact ⟨s2, hp', by rw [h2, vx]; rfl⟩
  | true =>
    cases bp with
    | false =>
      simp only [stepT, Option.some.injEq, Prod.mk.injEq] at hp
      obtain ⟨rfl, rfl⟩ := hp
      exact ⟨s, by rw [vp]; rfl, by rw [h2]; exact hx'⟩
    | true =>
      simp only [stepT] at hx hp
      simp only [h2, vx, vp, stepT]
      unfold commW at hc
      split at hc
      · -- two holes
        rename_i i ox j op hxo hpo
        rw [evalI_w ho.1 hxo] at hx
        rw [evalI_w ho.2 hpo] at hp
        obtain ⟨b, a, q1, q2, q3, q4, rfl, rfl⟩ := here_inv hx
        obtain ⟨b', a', r1, r2, r3, r4, rfl, rfl⟩ := here_inv hp
        have hij : i ≠ j := by simpa using hc
        have la := findH_some q4
        have r4' : findH j s.L = some a' := by
          rw [← r4]
          exact (findH_set (by rw [la]; simpa using hij) (immB_hole q3 j)).symm
        have la' := findH_some r4'
        have hne : a ≠ a' := by
          rintro rfl
          rw [la] at la'
          simp only [Option.some.injEq, Blk.hole.injEq] at la'
          exact hij la'
        refine ⟨{ s with L := s.L.set a' b'.1 }, by rw [evalI_w ho.2 hpo]; exact here_mk r1 q2 r3 r4', ?_⟩
        rw [evalI_w ho.1 hxo, here_mk (s := { s with L := s.L.set a' b'.1 }) (i := a) q1 q2 q3 (by
          simp only
          rw [findH_set (by rw [la']; simpa using fun q => hij q.symm) (immB_hole r3 i)]; exact q4)]
        simp only [Option.some.injEq, Prod.mk.injEq, St.mk.injEq, true_and, and_true]
        exact List.set_comm _ _ hne.symm
      · -- a look that does not see the block, and a write
        rename_i as ox b op hxo hpo
        rw [evalI_w ho.1 hxo] at hx
        rw [evalI_w ho.2 hpo] at hp
        simp only [evalW] at hx
        split at hx
        · rename_i hr
          simp only [Option.bind_eq_some_iff, pureK, Option.some.injEq, Prod.mk.injEq] at hx
          obtain ⟨⟨q1, q2⟩, hq, rfl, rfl⟩ := hx
          obtain ⟨t', ht'⟩ := (hide_keep (w := q1) hc hr hp).1 _ _ hq
          refine ⟨s2, by rw [evalI_w ho.2 hpo]; exact hp, ?_⟩
          rw [evalI_w ho.1 hxo]
          simp only [evalW, if_pos hr, ht', Option.bind_some, pureK]
        · simp at hx
      · rename_i b ox as op hxo hpo
        rw [evalI_w ho.1 hxo] at hx
        rw [evalI_w ho.2 hpo] at hp
        simp only [evalW] at hp
        split at hp
        · rename_i hr
          simp only [Option.bind_eq_some_iff, pureK, Option.some.injEq, Prod.mk.injEq] at hp
          obtain ⟨⟨q1, q2⟩, hq, rfl, rfl⟩ := hp
          obtain ⟨t', ht'⟩ := (hide_keep (w := q1) hc hr hx).2 _ _ hq
          refine ⟨s, ?_, by rw [evalI_w ho.1 hxo]; exact hx⟩
          rw [evalI_w ho.2 hpo]
          simp only [evalW, if_pos hr, ht', Option.bind_some, pureK]
        · simp at hp
      · -- a call in a region of its own, and a hole
        rename_i f l j op hxo hpo
        have hxe : ∀ t, evalI O e t x = callV O .inner (gets e l) t (f.get e) := fun t => by
          unfold evalI
          rw [if_neg (by rw [ho.1]; simp), hxo]; rfl
        rw [hxe] at hx
        rw [evalI_w ho.2 hpo] at hp
        unfold callV at hx hxe
        split at hx
        · rename_i g first cap hf
          obtain ⟨⟨k1, k2, k3⟩, k4⟩ := inner_here hO hx
          obtain ⟨b', a', r1, r2, r3, r4, rfl, rfl⟩ := here_inv hp
          have r4' : findH j s.L = some a' := by rw [← r4]; exact (findH_tags k3).symm
          have la' := findH_some r4'
          refine ⟨{ s with L := s.L.set a' b'.1 }, ?_, ?_⟩
          · rw [evalI_w ho.2 hpo, here_mk r1 (by rw [← k2]; exact r2) r3 r4', k1]
          · rw [hxe, hf]
            exact k4 a' j b'.1 la'
        · simp at hx
      · -- the same, of a call that writes nothing
        rename_i f l j op hxo hpo
        have hxe : ∀ t, evalI O e t x = callV O .pin (gets e l) t (f.get e) := fun t => by
          unfold evalI
          rw [if_neg (by rw [ho.1]; simp), hxo]; rfl
        rw [hxe] at hx
        rw [evalI_w ho.2 hpo] at hp
        unfold callV at hx hxe
        split at hx
        · rename_i g first cap hf
          have hx2 : (callM O .inner g (weaks (first ++ gets e l ++ cap)) s.allRo).bind (pureK s) = some (v, s1) := hx
          simp only [Option.bind_eq_some_iff, pureK, Option.some.injEq, Prod.mk.injEq] at hx2
          obtain ⟨⟨v0, s0⟩, hin, rfl, rfl⟩ := hx2
          obtain ⟨_, k4⟩ := inner_here hO hin
          obtain ⟨b', a', r1, r2, r3, r4, rfl, rfl⟩ := here_inv hp
          have la' := findH_some r4
          refine ⟨{ s with L := s.L.set a' b'.1 }, ?_, ?_⟩
          · rw [evalI_w ho.2 hpo, here_mk r1 r2 r3 r4]
          · rw [hxe, hf]
            have q := k4 a' j b'.1 la'
            show (callM O .inner g (weaks (first ++ gets e l ++ cap)) ({ s with L := s.L.set a' b'.1 } : St).allRo).bind (pureK { s with L := s.L.set a' b'.1 }) = _
            have e1 : ({ s with L := s.L.set a' b'.1 } : St).allRo = { s.allRo with L := s.allRo.L.set a' b'.1 } := rfl
            rw [e1, q]; rfl
        · simp at hx
      · simp at hc

theorem swap_ok (hO : FrO O) {R : List PI} {r : Env × St} (hc : commB x p = true) (h : runIs O (x :: p :: R) e s = some r) : ∃ r', runIs O (p :: x :: R) e s = some r' ∧ EqE r.1 r'.1 ∧ r'.2 = r.2 := by
  simp only [commB, Bool.and_eq_true] at hc
  obtain ⟨hk, hd, hx, hp⟩ := hc
  simp only [runIs_val, Option.bind_eq_some_iff] at h
  obtain ⟨⟨v, s1⟩, h1, ⟨w, s2⟩, h2, h3⟩ := h
  have hcomm : ∃ s1', valI O p e s = some (w, s1') ∧ valI O x (setD e p.dst w) s1' = some (v, s2) := by
    simp only [Bool.or_eq_true, Bool.and_eq_true, Bool.not_eq_true'] at hk
    rcases hk with hk | hk
    · exact val_comm hk h1 h2 (fun t => valI_eq (setD_look hx)) (fun t => valI_eq (setD_look hp))
    · exact val_comm2 hO hk.1 hk.2 h1 h2 (fun t => valI_eq (setD_look hx)) (fun t => valI_eq (setD_look hp))
  obtain ⟨s1', q1, q2⟩ := hcomm
  obtain ⟨r', r1, r2, r3⟩ := runIs_eqE (setD_comm hd) h3
  exact ⟨r', by simp only [runIs_val, q1, q2, Option.bind_some]; exact r1, r2, r3⟩

theorem EqE.trans {e1 e2 e3 : Env} (h : EqE e1 e2) (k : EqE e2 e3) : EqE e1 e3 := fun t => (h t).trans (k t)

/-- One of them goes first. -/
theorem front_ok (hO : FrO O) {R : List PI} : ∀ {pre : List PI} {e : Env} {s : St} {r : Env × St}, (∀ x ∈ pre, commB x p = true) → runIs O (pre ++ p :: R) e s = some r →
    ∃ r', runIs O (p :: (pre ++ R)) e s = some r' ∧ EqE r.1 r'.1 ∧ r'.2 = r.2
  | [], e, s, r, _, h => ⟨r, h, fun _ => rfl, rfl⟩
  | x :: pre, e, s, r, hc, h => by
    rw [List.cons_append, runIs_val, Option.bind_eq_some_iff] at h
    obtain ⟨q, hq, h⟩ := h
    obtain ⟨r', h1, h2, h3⟩ := front_ok hO (fun y hy => hc y (by simp [hy])) h
    have h4 : runIs O (x :: p :: (pre ++ R)) e s = some r' := by rw [runIs_val, hq]; exact h1
    obtain ⟨r'', k1, k2, k3⟩ := swap_ok hO (hc x (by simp)) h4
    exact ⟨r'', k1, h2.trans k2, k3.trans h3⟩

end
end Go.QAbs
