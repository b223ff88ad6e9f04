/- Every order that a region may draw. No condition. -/
import Derived.Test.YtmkjnglbfgajbaaQP5
namespace Go.QAbs
set_option linter.unusedVariables false
set_option linter.unusedSimpArgs false
open Go.RowKit (Below)

section
variable {P : Program} {O : Orc} {W0 : World} {B0 : Nat} {st st' : St} {ρ : Rho} {W : World} {e : Env} {a : Act} {ops : Array Oper} {nt : Nat} {h : Hint}

theorem compIs_get : ∀ {os : List Oper} {k : Nat} {is : List PI}, compIs P nt ops h k os = some is → is.length = os.length ∧ ∀ (j : Nat) (o : Oper), os[j]? = some o → ∃ p, is[j]? = some p ∧ compI P nt ops h (k + j) o = some p
  | [], k, is, hc => by simp only [compIs, Option.some.injEq] at hc; subst hc; exact ⟨rfl, by simp⟩
  | o :: os, k, is, hc => by
    simp only [compIs, Option.bind_eq_some_iff, Option.map_eq_some_iff] at hc
    obtain ⟨p, hp, ps, hps, rfl⟩ := hc
    obtain ⟨h1, h2⟩ := compIs_get hps
    refine ⟨by simp [h1], fun j o' hj => ?_⟩
    cases j with
    | zero => simp only [List.getElem?_cons_zero, Option.some.injEq] at hj; subst hj; exact ⟨p, rfl, hp⟩
    | succ j =>
      simp only [List.getElem?_cons_succ] at hj ⊢
      obtain ⟨q, hq, hc⟩ := h2 j o' hj
      exact ⟨q, hq, by rw [show k + (j + 1) = k + 1 + j by omega]; exact hc⟩

/-- What is said of the end of a region. -/
def EndOk (W0 : World) (B0 : Nat) (st : St) (ρ : Rho) (W : World) (a : Act) (r : Env × St) (Q : Exit → Act → World → Prop) : Prop :=
  ∀ a' ρ' W', Goes W0 B0 st ρ W r.2 ρ' W' → EnvR (cx r.2 ρ' W' r.2.A.length) r.1 a'.tmps → a'.tmps.size = a.tmps.size → a'.defers = a.defers → Q .normal a' W'

def Known (P : Program) (nt : Nat) (ops : Array Oper) (h : Hint) (q : Nat × PI) : Prop := ∃ o, ops[q.1]? = some o ∧ compI P nt ops h q.1 o = some q.2

theorem seq_ok (hO : OSound P O) {Q : Exit → Act → World → Prop} {r : Env × St} : ∀ (l : List (Nat × PI)) (e : Env) (st : St) (ρ : Rho) (W : World) (a : Act), (∀ q ∈ l, Known P nt ops h q) → runIs O (l.map (·.2)) e st = some r →
    Rel W0 B0 st ρ W → EnvR (cx st ρ W st.A.length) e a.tmps → nt ≤ a.tmps.size → EndOk W0 B0 st ρ W a r Q → wpOps P ops Q (l.map (·.1)) a W
  | [], e, st, ρ, W, a, _, hr, hrel, he, _, hQ => by
    simp only [List.map_nil, runIs, Option.some.injEq] at hr; subst hr
    exact hQ a ρ W (.refl hrel) he rfl rfl
  | q :: l, e, st, ρ, W, a, hk, hr, hrel, he, hs, hQ => by
    simp only [List.map_cons] at hr ⊢
    rw [runIs_val, Option.bind_eq_some_iff] at hr
    obtain ⟨⟨v, st1⟩, hv, hr⟩ := hr
    obtain ⟨o, ho, hc⟩ := hk q (by simp)
    rw [wpOps_cons]
    refine val_ok hO ho hc hrel he hs hv fun a' ρ' W' g he' hs' hd' => ?_
    exact seq_ok hO l _ _ ρ' W' a' (fun x hx => hk x (by simp [hx])) hr g.rel he' (by omega) fun a'' ρ'' W'' g' h1 h2 h3 => hQ a'' ρ'' W'' (g.trans g') h1 (h2.trans hs') (h3.trans hd')

/-! ### The orders -/

def ClosedS (ops : Array Oper) (S : Nat → Prop) : Prop := ∀ (j : Nat) (o : Oper), ops[j]? = some o → S j → ∀ x ∈ edgesOf o, S x

theorem maskOf_ok {S : Nat → Prop} {ms : List Nat} {k : Nat} (hms : ∀ j, j < k → S j → ∀ i, (ms.getD j 0).testBit i = true → S i) :
    ∀ {es : List Nat}, (∀ x ∈ es, S x ∧ x < k) → ∀ i, (maskOf ms es).testBit i = true → S i
  | [], _, i, hi => by simp [maskOf] at hi
  | x :: es, hx, i, hi => by
    simp only [maskOf, Nat.testBit_or, Bool.or_eq_true] at hi
    obtain ⟨h1, h2⟩ := hx x (by simp)
    rcases hi with hi | hi | hi
    · rw [Nat.testBit_two_pow] at hi
      simp only [decide_eq_true_eq] at hi
      subst hi; exact h1
    · exact hms x h2 h1 i hi
    · exact maskOf_ok hms (fun y hy => hx y (by simp [hy])) i hi

theorem apartAll_ok {m : Nat} {p : PI} : ∀ {xs : List PI} {k : Nat}, apartAll m p k xs = true → ∀ i x, xs[i]? = some x → m.testBit (k + i) = true ∨ commB x p = true
  | [], k, _, i, x, hx => by simp at hx
  | y :: xs, k, hh, i, x, hx => by
    simp only [apartAll, Bool.and_eq_true, Bool.or_eq_true] at hh
    cases i with
    | zero => simp only [List.getElem?_cons_zero, Option.some.injEq] at hx; subst hx; exact hh.1
    | succ i =>
      simp only [List.getElem?_cons_succ] at hx
      have := apartAll_ok hh.2 i x hx
      rw [show k + (i + 1) = k + 1 + i by omega]
      exact this

theorem drawGo_ok {S : Nat → Prop} (hS : ClosedS ops S) : ∀ {os : List Oper} {ps prev : List PI} {k : Nat} {ms : List Nat}, drawGo k ms prev os ps = true → (∀ j, os[j]? = ops[k + j]?) → ms.length = k → prev.length = k →
    (∀ j, j < k → S j → ∀ i, (ms.getD j 0).testBit i = true → S i) → ∀ (j : Nat) (o : Oper) (p : PI), os[j]? = some o → ps[j]? = some p →
      (∀ x ∈ edgesOf o, x < k + j) ∧ ((∀ x ∈ edgesOf o, S x) → ∀ i x, i < k + j → (prev ++ ps)[i]? = some x → ¬ S i → commB x p = true)
  | [], ps, prev, k, ms, _, _, _, _, _, j, o, p, ho, _ => by simp at ho
  | o0 :: os, [], prev, k, ms, _, _, _, _, _, j, o, p, _, hp => by simp at hp
  | o0 :: os, p0 :: ps, prev, k, ms, hd, hops, hl, hl', hms, j, o, p, ho, hp => by
    simp only [drawGo, Bool.and_eq_true] at hd
    obtain ⟨h1, h2, h3⟩ := hd
    have hlt : ∀ x ∈ edgesOf o0, x < k := fun x hx => by have := List.all_eq_true.1 h1 x hx; simpa using this
    cases j with
    | zero =>
      simp only [List.getElem?_cons_zero, Option.some.injEq] at ho hp
      subst ho; subst hp
      refine ⟨fun x hx => by have := hlt x hx; omega, fun hSe i x hi hx hn => ?_⟩
      have hi' : i < prev.length := by omega
      rw [List.getElem?_append_left hi'] at hx
      rcases apartAll_ok h2 i x hx with hb | hb
      · rw [Nat.zero_add] at hb
        exact absurd (maskOf_ok hms (fun y hy => ⟨hSe y hy, hlt y hy⟩) i hb) hn
      · exact hb
    | succ j =>
      simp only [List.getElem?_cons_succ] at ho hp
      have := drawGo_ok hS (os := os) (ps := ps) h3 (fun j => by have := hops (j + 1); simp only [List.getElem?_cons_succ] at this; rw [this]; congr 1; omega) (by simp [hl]) (by simp [hl']) ?_ j o p ho hp
      · rw [show k + (j + 1) = k + 1 + j by omega]
        refine ⟨this.1, fun hSe i x hi hx hn => this.2 hSe i x hi ?_ hn⟩
        simpa using hx
      · intro j' hj' hSj i hi
        by_cases hjk : j' < k
        · refine hms j' hjk hSj i ?_
          rw [← hi]
          simp [List.getD_eq_getElem?_getD, List.getElem?_append_left (show j' < ms.length by omega)]
        · have : j' = k := by omega
          subst this
          have h0 : ops[j']? = some o0 := by have := hops 0; simpa using this.symm
          have hm : (ms ++ [maskOf ms (edgesOf o0)]).getD j' 0 = maskOf ms (edgesOf o0) := by
            simp [List.getD_eq_getElem?_getD, ← hl]
          rw [hm] at hi
          exact maskOf_ok hms (fun y hy => ⟨hS j' o0 h0 hSj y hy, hlt y hy⟩) i hi

theorem mem_edges {o : Oper} {x : Nat} : x ∈ edgesOf o ↔ ∃ y ∈ o.after, Region.binds .any y = true ∧ y.on = x := by
  simp only [edgesOf, List.mem_map, List.mem_filter, Array.mem_toList_iff]
  constructor
  · rintro ⟨y, ⟨h1, h2⟩, h3⟩; exact ⟨y, h1, h2, h3⟩
  · rintro ⟨y, h1, h2, h3⟩; exact ⟨y, ⟨h1, h2⟩, h3⟩

theorem any_ok (hO : OSound P O) {Q : Exit → Act → World → Prop} {is : List PI} (hdraw : drawOk ops.toList is = true) (hlen : is.length = ops.size) (hcomp : ∀ (j : Nat) (o : Oper), ops[j]? = some o → ∃ p, is[j]? = some p ∧ compI P nt ops h j o = some p) :
    ∀ (fuel : Nat) (listed : Array Bool) (zs : List (Nat × PI)) (r : Env × St) (e : Env) (st : St) (ρ : Rho) (W : World) (a : Act),
      listed.size = ops.size → ClosedS ops (fun i => listed.getD i false = true) → (∀ q ∈ zs, is[q.1]? = some q.2) → zs.Pairwise (fun x y => x.1 < y.1) →
      (∀ i, i < ops.size → (listed.getD i false = false ↔ ∃ p, (i, p) ∈ zs)) → zs.length = fuel → runIs O (zs.map (·.2)) e st = some r →
      Rel W0 B0 st ρ W → EnvR (cx st ρ W st.A.length) e a.tmps → nt ≤ a.tmps.size → EndOk W0 B0 st ρ W a r Q → wpAny P .any ops Q fuel listed a W := by
  intro fuel
  have getDs : ∀ (l : Array Bool) (i : Nat), l.size = ops.size → i < ops.size → l.getD i true = l.getD i false := by
    intro l i hl hi
    simp [Array.getElem?_eq_getElem (show i < l.size by omega)]
  induction fuel with
  | zero =>
    intro listed zs r e st ρ W a hls hcl hzs hpw hrem hfl hr hrel he hs hQ
    have hz : zs = [] := List.length_eq_zero_iff.1 hfl
    subst hz
    simp only [List.map_nil, runIs, Option.some.injEq] at hr; subst hr
    refine ⟨?_, hQ a ρ W (.refl hrel) he rfl rfl⟩
    rw [List.eq_nil_iff_forall_not_mem]
    intro j hj
    obtain ⟨h1, o, ho, _⟩ := mem_ready.1 hj
    have hlt := lt_of_getA ho
    rw [getDs _ _ hls hlt] at h1
    obtain ⟨p, hp⟩ := (hrem j hlt).1 h1
    simp at hp
  | succ fuel ih =>
    intro listed zs r e st ρ W a hls hcl hzs hpw hrem hfl hr hrel he hs hQ
    have hdr : ∀ (j : Nat) (o : Oper) (p : PI), ops[j]? = some o → is[j]? = some p → (∀ x ∈ edgesOf o, x < j) ∧ ((∀ x ∈ edgesOf o, listed.getD x false = true) → ∀ i x, i < j → is[i]? = some x → ¬ listed.getD i false = true → commB x p = true) := by
      intro j o p ho hp
      have := drawGo_ok hcl (os := ops.toList) (ps := is) (prev := []) (k := 0) (ms := []) hdraw (by simp) rfl rfl (by simp) j o p (by simpa using ho) hp
      simpa using this
    refine ⟨fun hnil => ?_, fun i hi => ?_⟩
    · exfalso
      cases zs with
      | nil => simp at hfl
      | cons q zs =>
        have hq := hzs q (by simp)
        have hlt : q.1 < ops.size := by rw [← hlen]; exact lt_of_get hq
        have ho : ops[q.1]? = some ops[q.1] := Array.getElem?_eq_getElem hlt
        have hed := (hdr q.1 _ q.2 ho hq).1
        have hin : q.1 ∈ Region.ready .any ops listed := by
          refine mem_ready.2 ⟨?_, _, ho, fun y hy hb => ?_⟩
          · rw [getDs _ _ hls hlt]
            exact (hrem q.1 hlt).2 ⟨q.2, by simp⟩
          · have hlt' := hed y.on (mem_edges.2 ⟨y, hy, hb, rfl⟩)
            cases hl : listed.getD y.on false with
            | true => rfl
            | false =>
              obtain ⟨p, hp⟩ := (hrem y.on (by omega)).1 hl
              rcases List.mem_cons.1 hp with hp | hp
              · have : y.on = q.1 := by rw [← hp]
                omega
              · have := (List.pairwise_cons.1 hpw).1 _ hp
                simp only at this
                omega
        rw [hnil] at hin
        simp at hin
    · obtain ⟨h1, o, ho, hall⟩ := mem_ready.1 hi
      have hlt := lt_of_getA ho
      have h1' := h1
      rw [getDs _ _ hls hlt] at h1'
      obtain ⟨p, hp⟩ := (hrem i hlt).1 h1'
      obtain ⟨pre, post, rfl⟩ := List.append_of_mem hp
      have hip := hzs (i, p) hp
      simp only at hip
      have hSe : ∀ x ∈ edgesOf o, listed.getD x false = true := fun x hx => by
        obtain ⟨y, hy, hb, rfl⟩ := mem_edges.1 hx
        exact hall y hy hb
      have hcom : ∀ x ∈ pre.map (·.2), commB x p = true := by
        intro x hx
        obtain ⟨q, hq, rfl⟩ := List.mem_map.1 hx
        have hqi : q.1 < i := (List.pairwise_append.1 hpw).2.2 q hq (i, p) (by simp)
        refine (hdr i o p ho hip).2 hSe q.1 q.2 hqi (hzs q (by simp [hq])) ?_
        have := (hrem q.1 (by omega)).2 ⟨q.2, by simp [hq]⟩
        rw [this]; simp
      simp only [List.map_append, List.map_cons] at hr
      obtain ⟨r', hr', hE, hst⟩ := front_ok hO.frame hcom hr
      rw [runIs_val, Option.bind_eq_some_iff] at hr'
      obtain ⟨⟨v, st1⟩, hv, hr'⟩ := hr'
      obtain ⟨p', hp', hc⟩ := hcomp i o ho
      rw [hip] at hp'
      simp only [Option.some.injEq] at hp'; subst hp'
      refine val_ok hO ho hc hrel he hs hv fun a' ρ' W' g he' hs' hd' => ?_
      have hpw' : (pre ++ post).Pairwise (fun x y => x.1 < y.1) := hpw.sublist (by simp)
      have hne : ∀ q ∈ pre ++ post, q.1 ≠ i := by
        intro q hq
        rcases List.mem_append.1 hq with hq | hq
        · have := (List.pairwise_append.1 hpw).2.2 q hq (i, p) (by simp)
          simp only at this; omega
        · have := (List.pairwise_cons.1 (List.pairwise_append.1 hpw).2.1).1 q hq
          simp only at this; omega
      refine ih (listed.setIfInBounds i true) (pre ++ post) r' _ _ ρ' W' a' (by simp [hls]) ?_ (fun q hq => hzs q ?_) hpw' ?_ (by simp at hfl ⊢; omega) (by simpa using hr') g.rel he' (by omega) ?_
      · intro j oj hj hSj x hx
        by_cases hji : i = j
        · subst hji
          rw [ho] at hj; simp only [Option.some.injEq] at hj; subst hj
          exact getD_set_true (hSe x hx)
        · have hSj' : (listed.setIfInBounds i true).getD j false = true := hSj
          rw [getD_set_ne false hji] at hSj'
          exact getD_set_true (hcl j oj hj hSj' x hx)
      · rcases List.mem_append.1 hq with hq | hq <;> simp [hq]
      · intro j hj
        by_cases hji : i = j
        · subst hji
          constructor
          · intro hf
            have : (listed.setIfInBounds i true).getD i false = true := by
              simp [hls, hlt]
            rw [this] at hf; simp at hf
          · rintro ⟨q, hq⟩
            exact absurd rfl (hne _ hq)
        · rw [getD_set_ne false hji, hrem j hj]
          constructor
          · rintro ⟨q, hq⟩
            refine ⟨q, ?_⟩
            rcases List.mem_append.1 hq with hq | hq
            · simp [hq]
            · rcases List.mem_cons.1 hq with hq | hq
              · exact absurd (by rw [Prod.mk.injEq] at hq; exact hq.1.symm) hji
              · simp [hq]
          · rintro ⟨q, hq⟩
            refine ⟨q, ?_⟩
            rcases List.mem_append.1 hq with hq | hq <;> simp [hq]
      · intro a'' ρ'' W'' g' h1 h2 h3
        rw [hst] at g' h1
        exact hQ a'' ρ'' W'' (g.trans g') (fun t => by rw [hE t]; exact h1 t) (h2.trans hs') (h3.trans hd')

/-- A region. -/
theorem region_ok (hO : OSound P O) (hm : P.follows .mixedOrders = true) {Q : Exit → Act → World → Prop} {id : Nat} {draw : Bool} {is : List PI} (hc : (compIs P nt ops h 0 ops.toList).bind (drawK draw ops.toList) = some is) {r : Env × St}
    (hr : runIs O is e st = some r) (hrel : Rel W0 B0 st ρ W) (he : EnvR (cx st ρ W st.A.length) e a.tmps) (hs : nt ≤ a.tmps.size) (hQ : EndOk W0 B0 st ρ W a r Q) : (Code.region id ops draw).wp P Q a W := by
  simp only [Option.bind_eq_some_iff] at hc
  obtain ⟨is', hc, hd⟩ := hc
  obtain ⟨hl, hg⟩ := compIs_get hc
  have hl' : is'.length = ops.size := by rw [hl]; simp
  have hcomp : ∀ (j : Nat) (o : Oper), ops[j]? = some o → ∃ p, is'[j]? = some p ∧ compI P nt ops h j o = some p := fun j o ho => by
    have := hg j o (by simpa using ho)
    simpa using this
  have hz : ∀ q ∈ (List.range ops.size).zip is', is'[q.1]? = some q.2 := by
    intro q hq
    obtain ⟨i, hi⟩ := List.getElem?_of_mem hq
    rw [List.getElem?_zip_eq_some] at hi
    obtain ⟨h1, h2⟩ := hi
    rw [List.getElem?_range (by rw [← hl']; exact lt_of_get h2)] at h1
    simp only [Option.some.injEq] at h1
    rw [← h1]; exact h2
  have h1 : ((List.range ops.size).zip is').map (·.1) = List.range ops.size := List.map_fst_zip (by simp [hl'])
  have h2 : ((List.range ops.size).zip is').map (·.2) = is' := List.map_snd_zip (by simp [hl'])
  unfold drawK at hd
  split at hd
  · rename_i hdraw
    split at hd
    · rename_i hok
      simp only [Option.some.injEq] at hd; subst hd
      subst hdraw
      refine wp_region_any hm ?_
      have gd : Goes W0 B0 st ρ W st ρ W.drew := Goes.drew hrel
      refine any_ok (W0 := W0) (B0 := B0) hO hok hl' hcomp ops.size (Array.replicate ops.size false) ((List.range ops.size).zip is') r e st ρ W.drew a (by simp) ?_ hz ?_ ?_ (by simp [hl']) (by rw [h2]; exact hr) gd.rel (he.mono (gd.ev.le _ (Nat.le_refl _))) hs ?_
      · intro j o ho hS x hx
        exfalso
        have hS' : (Array.replicate ops.size false).getD j false = true := hS
        by_cases hj : j < ops.size <;> simp [hj] at hS'
      · have hp : (List.range ops.size).Pairwise (· < ·) := List.pairwise_lt_range
        rw [← h1, List.pairwise_map] at hp
        exact hp
      · intro i hi
        constructor
        · intro _
          have hi' : i < is'.length := by omega
          refine ⟨is'[i], ?_⟩
          rw [List.mem_iff_getElem?]
          exact ⟨i, by rw [List.getElem?_zip_eq_some]; exact ⟨by rw [List.getElem?_range hi], List.getElem?_eq_getElem hi'⟩⟩
        · intro _; simp [hi]
      · intro a' ρ' W' g q1 q2 q3
        exact hQ a' ρ' W' (gd.trans g) q1 q2 q3
    · simp at hd
  · rename_i hdraw
    simp only [Option.some.injEq] at hd; subst hd
    have : draw = false := by simpa using hdraw
    subst this
    refine wp_region ?_
    have := seq_ok hO (ops := ops) (nt := nt) (h := h) (Q := Q) (r := r) ((List.range ops.size).zip is') e st ρ W a (fun q hq => ?_) (by rw [h2]; exact hr) hrel he hs hQ
    · rw [h1] at this; exact this
    · have hq' := hz q hq
      have hlt : q.1 < ops.size := by rw [← hl']; exact lt_of_get hq'
      obtain ⟨p, hp, hc⟩ := hcomp q.1 _ (Array.getElem?_eq_getElem hlt)
      rw [hq'] at hp
      simp only [Option.some.injEq] at hp; subst hp
      exact ⟨_, Array.getElem?_eq_getElem hlt, hc⟩

end
end Go.QAbs
