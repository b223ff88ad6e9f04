/- Every operation goes on as before where a hole of an older region is filled. No condition. -/
import Derived.Test.YtmkjnglbfgajbaaQR1
namespace Go.QAbs
set_option linter.unusedVariables false
set_option linter.unusedSimpArgs false
set_option linter.unusedVariables false
set_option linter.unusedSimpArgs false

theorem fr_ret1 {q : Option AV} : FrP fun st => q.bind (ret1 st) := by
  cases q with
  | none => exact FrP.nope
  | some v => exact FrP.ret v

theorem fr_read {q : St → Option AV} (h : ∀ s t v, More s t → q s = some v → q t = some v) : FrP fun st => (q st).bind (ret1 st) := FrP.read h

/-- A new block, and its value by place. -/
theorem fr_new (b : Blk) (K : Nat → Nat → AV) : FrP fun st => (st.new b).bind fun r => some (K st.A.length r.1, r.2) := by
  refine LO.fr ?_
  intro A A' ro L r hl h
  have h' : (LO.new b) = (LO.new b) := rfl
  simp only [Option.bind_eq_some_iff, Option.some.injEq] at h
  obtain ⟨⟨i, A1, ro1, L1⟩, hn, rfl⟩ := h
  obtain ⟨h1, h2⟩ := LO.new b A A' ro L _ hl hn
  simp only at h1; subst h1
  refine ⟨rfl, ?_⟩
  simp only [h2, Option.bind_some, hl]

theorem put_hole {st st' : St} {lv ix : Nat} {b : Blk} {b0 : Blk} (hg : st.get lv ix = some b0) (hb : holeTag b = none) (h : st.put lv ix b = some st') {α : Type} (a : α) :
    tagsA st'.A = tagsA st.A ∧ ∀ M i B, HoleIn st.A M i → ((st.fillA M i B).put lv ix b).bind (fun s => some (a, s)) = some (a, st'.fillA M i B) := by
  obtain ⟨h1, h2⟩ := put_fr hg hb h
  exact ⟨h1, fun M i B hh => by rw [h2 M i B hh]; rfl⟩

theorem fr_storeB (n lv ix ver i o : Nat) (x : AV) : FrP fun st => (storeB st n lv ix ver i o x (st.get lv ix)).bind retU := by
  intro st r hr
  simp only [Option.bind_eq_some_iff, retU, Option.some.injEq] at hr
  obtain ⟨st', h, rfl⟩ := hr
  cases hg : st.get lv ix with
  | none => rw [hg] at h; simp [storeB] at h
  | some b0 =>
    rw [hg] at h
    cases b0 with
    | arr w ver' es =>
      simp only [storeB] at h
      split at h
      · rename_i hv
        simp only [Option.bind_eq_some_iff] at h
        obtain ⟨el, h1, e', h2, h3⟩ := h
        obtain ⟨k1, k2⟩ := put_fr hg rfl h3
        refine ⟨k1, fun M j B hh => ?_⟩
        simp only [fill_more hh lv ix _ hg, storeB, if_pos hv, h1, h2, Option.bind_some, k2 M j B hh, retU]
      · simp at h
    | _ => simp [storeB] at h

theorem fr_storeP (n : Nat) (x a : AV) : FrP fun st => (storeP st n x a).bind retU := by
  cases a with
  | ptr lv ix ver i o =>
    exact (FrP.bind (F := fun st => sealV deep (lv + 1) st x) (G := fun v st => (storeB st n lv ix ver i o v (st.get lv ix)).bind retU) (LO.seal _ _ _).fr fun v => fr_storeB n lv ix ver i o v).congr fun st => by
      simp only [storeP, Option.bind_assoc]; rfl
  | _ => exact FrP.nope.congr fun st => rfl

theorem fr_appB (w bytes lv ix ver s n : Nat) (ys : List AV) : FrP fun st => appB st w bytes lv ix ver s n ys (st.get lv ix) := by
  intro st r hr
  simp only at hr
  cases hg : st.get lv ix with
  | none => simp only [hg, appB, reduceCtorEq] at hr
  | some b0 =>
    rw [hg] at hr
    cases b0 with
    | arr w' ver' es =>
      simp only [appB] at hr
      split at hr
      · rename_i hc
        simp only [Option.bind_eq_some_iff, Option.some.injEq] at hr
        obtain ⟨st', h3, rfl⟩ := hr
        obtain ⟨k1, k2⟩ := put_fr hg rfl h3
        refine ⟨k1, fun M j B hh => ?_⟩
        simp only [fill_more hh lv ix _ hg, appB, if_pos hc, k2 M j B hh, Option.bind_some]
      · simp at hr
    | _ => simp only [appB, reduceCtorEq] at hr

theorem fr_appendV (w bytes : Nat) (ys : List AV) (s : AV) : FrP fun st => appendV st w bytes ys s := by
  cases s with
  | nils =>
    by_cases hc : ys.length < 4294967296 ∧ bytes ≤ 4096 ∧ sameW w ys = true
    · exact (fr_new (.arr w 0 ys) fun lv ix => .ref lv ix 0 0 ys.length).congr fun st => by simp only [appendV, if_pos hc]; rfl
    · exact FrP.nope.congr fun st => by simp only [appendV, if_neg hc]
  | lit es =>
    by_cases hc : ys.isEmpty = true
    · exact (FrP.ret (AV.lit es)).congr fun st => by simp only [appendV, if_pos hc]
    · exact FrP.nope.congr fun st => by simp only [appendV, if_neg hc]
  | ref lv ix ver b n =>
    by_cases hc : sameW w ys = true
    · exact (FrP.bind (F := fun st => mapSt (sealV deep (lv + 1)) st ys) (G := fun v st => appB st w bytes lv ix ver b n v (st.get lv ix)) (LO.mapSt (fun v => LO.seal _ _ v) ys).fr fun v => fr_appB w bytes lv ix ver b n v).congr fun st => by
        simp only [appendV, if_pos hc]; rfl
    · exact FrP.nope.congr fun st => by simp only [appendV, if_neg hc]
  | _ => exact FrP.nope.congr fun st => rfl

theorem fr_mupd (kk : Nat) (k v m : AV) : FrP fun st => (mupdV st kk k v m).bind retU := by
  cases m with
  | map lv ix =>
    by_cases hc : keyIs kk k = true
    · refine (FrP.bind (F := fun st => sealV deep (lv + 1) st v) (G := fun x st => (mupdK lv ix k (x, st)).bind retU) (LO.seal _ _ _).fr fun x => ?_).congr fun st => by
        simp only [mupdV, if_pos hc, Option.bind_assoc]
      intro st r hr
      simp only [Option.bind_eq_some_iff, retU, Option.some.injEq, mupdK] at hr
      obtain ⟨st', ⟨es, h1, es', h2, h3⟩, rfl⟩ := hr
      cases hg : st.get lv ix with
      | none => rw [hg] at h1; simp [mapB] at h1
      | some b0 =>
        obtain ⟨k1, k2⟩ := put_fr hg rfl h3
        refine ⟨k1, fun M j B hh => ?_⟩
        simp only [mupdK, fill_more hh lv ix _ hg]
        rw [hg] at h1
        simp only [h1, h2, Option.bind_some, k2 M j B hh, retU]
    · exact FrP.nope.congr fun st => by simp only [mupdV, if_neg hc]; rfl
  | _ => exact FrP.nope.congr fun st => rfl

theorem fr_mdel (kk : Nat) (k m : AV) : FrP fun st => (mdelV st kk k m).bind retT := by
  cases m with
  | map lv ix =>
    by_cases hc : keyIs kk k = true
    · intro st r hr
      simp only [mdelV, if_pos hc, Option.bind_eq_some_iff, retT, Option.some.injEq] at hr
      obtain ⟨st', ⟨es, h1, es', h2, h3⟩, rfl⟩ := hr
      cases hg : st.get lv ix with
      | none => rw [hg] at h1; simp [mapB] at h1
      | some b0 =>
        obtain ⟨k1, k2⟩ := put_fr hg rfl h3
        refine ⟨k1, fun M j B hh => ?_⟩
        simp only [mdelV, if_pos hc, fill_more hh lv ix _ hg]
        rw [hg] at h1
        simp only [h1, h2, Option.bind_some, k2 M j B hh, retT]
    · exact FrP.nope.congr fun st => by simp only [mdelV, if_neg hc]; rfl
  | _ => exact FrP.nope.congr fun st => rfl

/-- EVERY OPERATION. -/
theorem fr_op (e : Env) (o : PO) : FrP fun st => evalPO e st o := by
  cases o <;> simp only [evalPO]
  case mv => exact FrP.ret _
  case onil w => exact fr_new _ fun lv ix => .ref lv ix 0 0 0
  case box x =>
    cases (x.get e).wide with
    | none => exact FrP.nope
    | some w => exact fr_new (.arr w 0 [x.get e]) fun lv ix => .ptr lv ix 0 0 0
  case boxnil w =>
    refine LO.fr ?_
    intro A A' ro L r hl h
    simp only [Option.bind_eq_some_iff, boxNilK] at h
    obtain ⟨⟨i, A1, ro1, L1⟩, hn, ⟨i2, A2, ro2, L2⟩, hn2, h⟩ := h
    simp only [newPtrK, Option.some.injEq] at h
    subst h
    obtain ⟨h1, h2⟩ := LO.new _ A A' ro L _ hl hn
    simp only at h1; subst h1
    obtain ⟨k1, k2⟩ := LO.new _ A1 A' ro1 L1 _ hl hn2
    simp only at k1; subst k1
    refine ⟨rfl, ?_⟩
    simp only [h2, Option.bind_some, boxNilK, hl, k2, newPtrK]
  case build z ps =>
    cases fillV z (partsV e ps) with
    | none => exact FrP.nope
    | some cs => exact FrP.ret _
  case bslice own w z ps =>
    cases fillE w z (partsE e ps) with
    | none => exact FrP.nope
    | some es =>
      cases own with
      | true => exact fr_new (.arr w 0 es) fun lv ix => .ref lv ix 0 0 es.length
      | false =>
        by_cases hc : es.isEmpty = true
        · exact (FrP.ret AV.nils).congr fun st => by simp only [Option.bind_some, bslK, Bool.false_eq_true, if_false, if_pos hc]
        · exact (FrP.bind (G := fun l st => some (AV.lit l, st)) (LO.mapSt (fun v => LO.seal _ 0 v) es).fr fun l => FrP.ret _).congr fun st => by
            simp only [Option.bind_some, bslK, Bool.false_eq_true, if_false, if_neg hc]; rfl
  case ld g n a => exact fr_read fun s t v m h => m.loadP h
  case st n a x => exact fr_storeP n _ _
  case eqs neg kind ks x y =>
    cases eqV ks kind (x.get e) (y.get e) with
    | none => exact FrP.nope
    | some b => exact FrP.ret _
  case b2s x => exact fr_read fun s t v m h => m.b2sV h
  case mkf => exact FrP.ret _
  case mkmap => exact fr_new _ fun lv ix => .map lv ix
  case mkslice w bytes z l c =>
    refine FrP.congr (F := fun st => (mkslB w bytes z (l.get e) (c.get e)).bind fun r => (st.new r.1).bind fun q => some (AV.ref st.A.length q.1 0 0 r.2, q.2)) ?_ ?_
    · cases mkslB w bytes z (l.get e) (c.get e) with
      | none => exact FrP.nope
      | some r => exact fr_new r.1 fun lv ix => .ref lv ix 0 0 r.2
    · intro st
      unfold mkslV mkslB
      split
      · split <;> rfl
      · rfl
  case slc w x lo hi => exact fr_read fun s t v m h => m.slcV h
  case ixS w x i => exact fr_read fun s t v m h => m.ixSV h
  case look kk z ok x i => exact fr_read fun s t v m h => m.lookV h
  case mupd kk x k v => exact fr_mupd kk _ _ _
  case mdel kk x k => exact fr_mdel kk _ _
  case len k x => exact FrP.read (q := fun st => (lenOf st k (x.get e)).map fun (n : Nat) => AV.int .i64 (n : Int)) (fun s t v m h => by
      simp only [Option.map_eq_some_iff] at h ⊢
      obtain ⟨n, hn, rfl⟩ := h
      exact ⟨n, m.lenOf hn, rfl⟩) |>.congr fun st => by cases lenOf st k (x.get e) <;> rfl
  case app w bytes s x =>
    intro st r hr
    simp only [Option.bind_eq_some_iff] at hr
    obtain ⟨ys, h1, h2⟩ := hr
    obtain ⟨k1, k2⟩ := fr_appendV w bytes ys (s.get e) st r h2
    refine ⟨k1, fun M i B hh => ?_⟩
    simp only [(fill_more hh).elems h1, Option.bind_some, k2 M i B hh]
  case call => exact FrP.nope
  case w => exact FrP.nope
  all_goals exact fr_ret1

theorem More.hide2 {s t : St} (P : Nat → Nat → Bool) (m : More s t) : More (s.hide P) (t.hide P) := by
  intro lv ix b h
  rw [hide_get] at h ⊢
  split at h
  · simp at h
  · rename_i hp; rw [if_neg hp]; exact m _ _ _ h

theorem fr_w (e : Env) (o : PO) (k : WK) : FrP fun st => evalW e st o k := by
  cases k <;> simp only [evalW]
  case blind =>
    by_cases hc : o.reads = true
    · cases hq : evalPO e .blank o with
      | none => exact FrP.nope.congr fun st => by simp [hc]
      | some r => exact (FrP.ret r.1).congr fun st => by simp [hc, pureK]
    · exact FrP.nope.congr fun st => by simp [hc]
  case imm =>
    unfold immW
    cases o <;> try exact FrP.nope
    rename_i own w z ps
    cases own with
    | true => exact FrP.nope.congr fun st => rfl
    | false =>
      cases hf : fillE w z (partsE e ps) with
      | none => exact FrP.nope.congr fun st => by show (fillE w z (partsE e ps)).bind (immK st) = none; rw [hf]; rfl
      | some es =>
        by_cases hc : es.all (imm 6) = true
        · exact (FrP.ret (if es.isEmpty = true then .nils else .lit es)).congr fun st => by show (fillE w z (partsE e ps)).bind (immK st) = _; rw [hf, Option.bind_some, immK, if_pos hc]
        · exact FrP.nope.congr fun st => by show (fillE w z (partsE e ps)).bind (immK st) = none; rw [hf, Option.bind_some, immK, if_neg hc]
  case app0 =>
    unfold app0W
    cases o <;> try exact FrP.nope
    rename_i w bytes s x
    by_cases hc : isNils (s.get e) = true
    · exact (fr_op e (.app w bytes s x)).congr fun st => by simp only [if_pos hc]
    · exact FrP.nope.congr fun st => by simp only [if_neg hc]
  case hide as =>
    by_cases hc : o.reads = true
    · refine (FrP.read (q := fun st => (evalPO e (st.hide (anyPtr (gets e as))) o).map (·.1)) (fun s t v m h => ?_)).congr fun st => ?_
      · simp only [Option.map_eq_some_iff] at h ⊢
        obtain ⟨⟨v0, s0⟩, h0, rfl⟩ := h
        exact ⟨_, (reads_mono hc (m.hide2 _) h0).1, rfl⟩
      · simp only [if_pos hc]
        cases evalPO e (st.hide (anyPtr (gets e as))) o <;> rfl
    · exact FrP.nope.congr fun st => by simp [hc]
  case plain b =>
    unfold plainW
    cases o <;> try exact FrP.nope
    rename_i n a x
    by_cases hc : sameBlk (a.get e) (b.get e) = true ∧ imm 6 (x.get e) = true
    · exact (fr_op e (.st n a x)).congr fun st => by simp only [if_pos hc]
    · exact FrP.nope.congr fun st => by simp only [if_neg hc]
  case here j =>
    cases newOf e o with
    | none => exact FrP.nope
    | some b =>
      refine LO.fr ?_
      intro A A' ro L r hl h
      simp only [Option.bind_some, hereV] at h ⊢
      split at h
      · rename_i hc
        rw [if_pos hc]
        simp only [Option.bind_eq_some_iff, fillK, Option.some.injEq] at h ⊢
        obtain ⟨i, hi, rfl⟩ := h
        exact ⟨rfl, i, hi, by rw [hl]⟩
      · simp at h

/-- An oracle that goes on as before where a hole of an older region is filled. -/
def FrO (O : Orc) : Prop := ∀ f args, FrP fun st => O f args st

theorem fillA_push {st : St} {M i : Nat} {B : Blk} (h : HoleIn st.A M i) : (st.fillA M i B).push = st.push.fillA M i B := by
  obtain ⟨r, j, h1, h2⟩ := h
  have hlt := lt_of_get h1
  simp only [St.push, St.fillA, St.mk.injEq, and_true]
  apply List.ext_getElem?
  intro k
  rw [fillA_get]
  by_cases hk : k < st.A.length
  · rw [List.getElem?_append_left (by rw [fillA_length]; exact hk), List.getElem?_append_left hk, fillA_get]
  · rw [List.getElem?_append_right (by rw [fillA_length]; omega), List.getElem?_append_right (by omega), fillA_length]
    cases hx : ([(st.ro, st.L)] : List (Bool × List Blk))[k - st.A.length]? with
    | none => rfl
    | some x => simp only [Option.map_some]; rw [if_neg (by omega)]

theorem HoleIn.push {st : St} {M i : Nat} (h : HoleIn st.A M i) : HoleIn st.push.A M i := by
  obtain ⟨r, j, h1, h2⟩ := h
  exact ⟨r, j, by simp only [St.push]; rw [List.getElem?_append_left (lt_of_get h1)]; exact h1, h2⟩

theorem pop_some : ∀ {A A' : List (Bool × List Blk)} {r : Bool × List Blk}, pop A = some (A', r) → A = A' ++ [r]
  | [], _, _, h => by simp [pop] at h
  | [a], A', r, h => by simp only [pop, Option.some.injEq, Prod.mk.injEq] at h; obtain ⟨rfl, rfl⟩ := h; rfl
  | a :: b :: A, A', r, h => by
    simp only [pop, Option.map_eq_some_iff, Prod.mk.injEq] at h
    obtain ⟨⟨A1, r1⟩, h1, rfl, rfl⟩ := h
    rw [pop_some h1]; rfl

theorem pop_fill {A A' : List (Bool × List Blk)} {r : Bool × List Blk} {M i : Nat} {B : Blk} (h : pop A = some (A', r)) (hM : M < A'.length) : pop (fillA M i B A) = some (fillA M i B A', r) := by
  have := pop_some h; subst this
  have e : fillA M i B (A' ++ [r]) = fillA M i B A' ++ [r] := by
    apply List.ext_getElem?
    intro k
    rw [fillA_get]
    by_cases hk : k < A'.length
    · rw [List.getElem?_append_left hk, List.getElem?_append_left (by rw [fillA_length]; exact hk), fillA_get]
    · rw [List.getElem?_append_right (by omega), List.getElem?_append_right (by rw [fillA_length]; omega), fillA_length]
      cases hx : ([r] : List (Bool × List Blk))[k - A'.length]? with
      | none => rfl
      | some x => simp only [Option.map_some]; rw [if_neg (by omega)]
  rw [e, pop_append]

theorem tags_pop {A' : List (Bool × List Blk)} {r r' : Bool × List Blk} {B' : List (Bool × List Blk)} (h : tagsA (A' ++ [r]) = tagsA (B' ++ [r'])) : tagsA A' = tagsA B' ∧ (r.1 = r'.1 ∧ tags r.2 = tags r'.2) := by
  unfold tagsA at h ⊢
  rw [List.map_append, List.map_append, List.map_cons, List.map_nil, List.map_cons, List.map_nil] at h
  have := List.append_inj' h rfl
  exact ⟨this.1, by simpa using this.2⟩

/-- What runs in a region of its own: the region is left. -/
theorem fr_leave {F : St → Option (AV × St)} (h : FrP F) : FrP fun st => (F st.push).bind fun r => leaveK r := by
  intro st r hr
  simp only [Option.bind_eq_some_iff, leaveK, popK, Option.some.injEq] at hr
  obtain ⟨⟨v, s1⟩, h1, ⟨A', rr⟩, h2, rfl⟩ := hr
  obtain ⟨k1, k2⟩ := h _ _ h1
  simp only at k1 h2
  have e := pop_some h2
  have ht : tagsA A' = tagsA st.A ∧ (rr.1 = st.ro ∧ tags rr.2 = tags st.L) := by
    rw [e] at k1
    exact tags_pop (r' := (st.ro, st.L)) k1
  refine ⟨ht.1, fun M i B hh => ?_⟩
  have hl : A'.length = st.A.length := by have := congrArg List.length ht.1; simpa [tagsA] using this
  simp only [fillA_push hh, k2 M i B hh.push, Option.bind_some, leaveK]
  have hM : M < A'.length := by obtain ⟨r0, j, q1, q2⟩ := hh; rw [hl]; exact lt_of_get q1
  simp only [St.fillA, pop_fill h2 hM, Option.bind_some, popK]

/-- The same, of a hole of the region that is left. -/
theorem leave_here {F : St → Option (AV × St)} (h : FrP F) {st : St} {v : AV} {st' : St} (hr : (F st.push).bind (fun r => leaveK r) = some (v, st')) :
    (st'.A.length = st.A.length ∧ st'.ro = st.ro ∧ tags st'.L = tags st.L) ∧ ∀ (i j : Nat) (B : Blk), st.L[i]? = some (.hole j) → (F ({ st with L := st.L.set i B } : St).push).bind (fun r => leaveK r) = some (v, { st' with L := st'.L.set i B }) := by
  simp only [Option.bind_eq_some_iff, leaveK, popK, Option.some.injEq] at hr
  obtain ⟨⟨v1, s1⟩, h1, ⟨A', rr⟩, h2, h3⟩ := hr
  simp only [Prod.mk.injEq] at h3
  obtain ⟨rfl, rfl⟩ := h3
  obtain ⟨k1, k2⟩ := h _ _ h1
  simp only at k1 h2
  have e := pop_some h2
  have ht : tagsA A' = tagsA st.A ∧ (rr.1 = st.ro ∧ tags rr.2 = tags st.L) := by
    rw [e] at k1
    exact tags_pop (r' := (st.ro, st.L)) k1
  have hl : A'.length = st.A.length := by have := congrArg List.length ht.1; simpa [tagsA] using this
  refine ⟨⟨hl, ht.2.1, ht.2.2⟩, fun i j B hh => ?_⟩
  have hp : ({ st with L := st.L.set i B } : St).push = st.push.fillA st.A.length i B := by
    simp only [St.push, St.fillA, St.mk.injEq, and_true]
    apply List.ext_getElem?
    intro k
    rw [fillA_get]
    by_cases hk : k < st.A.length
    · rw [List.getElem?_append_left hk, List.getElem?_append_left hk, List.getElem?_eq_getElem hk, Option.map_some, if_neg (by omega)]
    · by_cases hk2 : k = st.A.length
      · subst hk2; simp
      · rw [List.getElem?_eq_none (by simp; omega), List.getElem?_eq_none (by simp; omega)]; rfl
  have hin : HoleIn st.push.A st.A.length i := ⟨(st.ro, st.L), j, by simp [St.push], hh⟩
  rw [hp]
  have q := k2 st.A.length i B hin
  rw [q, Option.bind_some]
  simp only [leaveK, St.fillA, e]
  have e2 : fillA st.A.length i B (A' ++ [rr]) = A' ++ [(rr.1, rr.2.set i B)] := by
    apply List.ext_getElem?
    intro k
    rw [fillA_get]
    by_cases hk : k < A'.length
    · rw [List.getElem?_append_left hk, List.getElem?_append_left hk, List.getElem?_eq_getElem hk, Option.map_some, if_neg (by omega)]
    · by_cases hk2 : k = A'.length
      · subst hk2; simp [hl]
      · rw [List.getElem?_eq_none (by simp; omega), List.getElem?_eq_none (by simp; omega)]; rfl
  rw [e2, pop_append]; rfl

theorem fr_seal {O : Orc} (hO : FrO O) (f : FuncId) (args : List AV) : FrP fun st => (O f args st).bind fun r => sealV deep r.2.A.length r.2 r.1 :=
  FrP.bind (G := fun v st => sealV deep st.A.length st v) (hO f args) fun v => by
    intro st r hr
    obtain ⟨k1, k2⟩ := (LO.seal deep st.A.length v).fr st r hr
    refine ⟨k1, fun M i B hh => ?_⟩
    have := k2 M i B hh
    simp only [St.fillA, fillA_length] at this ⊢
    exact this

theorem inner_eq (O : Orc) (f : FuncId) (args : List AV) (st : St) : callM O .inner f args st = (((fun st => (O f args st).bind fun r => sealV deep r.2.A.length r.2 r.1) st.push).bind fun r => leaveK r) := by
  simp only [callM, Option.bind_assoc]; rfl

theorem inner_here {O : Orc} (hO : FrO O) {f : FuncId} {args : List AV} {st st' : St} {v : AV} (h : callM O .inner f args st = some (v, st')) :
    (st'.A.length = st.A.length ∧ st'.ro = st.ro ∧ tags st'.L = tags st.L) ∧ ∀ (i j : Nat) (B : Blk), st.L[i]? = some (.hole j) → callM O .inner f args { st with L := st.L.set i B } = some (v, { st' with L := st'.L.set i B }) := by
  rw [inner_eq] at h
  obtain ⟨h1, h2⟩ := leave_here (fr_seal hO f args) h
  exact ⟨h1, fun i j B hh => by rw [inner_eq]; exact h2 i j B hh⟩

theorem fillA_allRo {st : St} {M i : Nat} {B : Blk} : (st.fillA M i B).allRo = st.allRo.fillA M i B := by
  simp only [St.allRo, St.fillA, St.mk.injEq, and_true]
  apply List.ext_getElem?
  intro k
  rw [fillA_get, List.getElem?_map, List.getElem?_map, fillA_get]
  cases st.A[k]? with
  | none => rfl
  | some r => simp only [Option.map_some]; split <;> rfl

theorem HoleIn.allRo {st : St} {M i : Nat} (h : HoleIn st.A M i) : HoleIn st.allRo.A M i := by
  obtain ⟨r, j, h1, h2⟩ := h
  exact ⟨(true, r.2), j, by simp [St.allRo, h1], h2⟩

theorem adopt1_fill {s : St} {v : AV} {r : AV × St} (h : adopt1 s v = some r) : ∃ A' rr, pop s.A = some (A', rr) ∧ r.2.A = A' ∧ ∀ M i B, M < A'.length → adopt1 (s.fillA M i B) v = some (r.1, r.2.fillA M i B) := by
  cases v with
  | ref lv ix ver b n =>
    simp only [adopt1] at h
    split at h
    · rename_i hl
      unfold adoptR at h
      split at h
      · rename_i w ver' es hL
        split at h
        · rename_i hv
          simp only [Option.bind_eq_some_iff] at h
          obtain ⟨⟨A', rr⟩, hp, h⟩ := h
          unfold adoptB at h
          split at h
          · simp at h
          · rename_i hc
            simp only [Option.some.injEq] at h; subst h
            refine ⟨A', rr, hp, rfl, fun M i B hM => ?_⟩
            simp only [adopt1, St.fillA, fillA_length]
            rw [if_pos hl, hL]
            simp only [adoptR, if_pos hv, pop_fill hp hM, Option.bind_some, adoptB]
            rw [if_neg hc, fillA_length]
        · simp at h
      · simp at h
    · simp at h
  | nils =>
    simp only [adopt1, leaveK, Option.bind_eq_some_iff, popK, Option.some.injEq] at h
    obtain ⟨⟨A', rr⟩, hp, rfl⟩ := h
    refine ⟨A', rr, hp, rfl, fun M i B hM => ?_⟩
    simp only [adopt1, leaveK, St.fillA, pop_fill hp hM, Option.bind_some, popK]
  | _ => simp [adopt1] at h

theorem adoptK_fill {s : St} {v : AV} {r : AV × St} (h : adoptK (v, s) = some r) : ∃ A' rr, pop s.A = some (A', rr) ∧ r.2.A = A' ∧ ∀ M i B, M < A'.length → adoptK (v, s.fillA M i B) = some (r.1, r.2.fillA M i B) := by
  unfold adoptK at h
  split at h
  · rename_i v0 vs hv
    simp only at hv
    subst hv
    split at h
    · rename_i hc
      simp only [Option.bind_eq_some_iff, tup1, Option.some.injEq] at h
      obtain ⟨q, hq, rfl⟩ := h
      obtain ⟨A', rr, h1, h2, h3⟩ := adopt1_fill hq
      refine ⟨A', rr, h1, h2, fun M i B hM => ?_⟩
      simp only [adoptK, if_pos hc, h3 M i B hM, Option.bind_some, tup1]
    · simp at h
  · rename_i hn
    obtain ⟨A', rr, h1, h2, h3⟩ := adopt1_fill h
    refine ⟨A', rr, h1, h2, fun M i B hM => ?_⟩
    unfold adoptK
    split
    · rename_i v0 vs hv
      exact absurd hv (hn v0 vs)
    · exact h3 M i B hM

theorem fr_move {F : St → Option (AV × St)} (h : FrP F) : FrP fun st => (F st.push).bind adoptK := by
  intro st r hr
  simp only [Option.bind_eq_some_iff] at hr
  obtain ⟨⟨v, s1⟩, h1, h2⟩ := hr
  obtain ⟨k1, k2⟩ := h _ _ h1
  obtain ⟨A', rr, e1, e2, e3⟩ := adoptK_fill h2
  simp only at k1
  have e := pop_some e1
  have ht : tagsA A' = tagsA st.A ∧ (rr.1 = st.ro ∧ tags rr.2 = tags st.L) := by
    rw [e] at k1
    exact tags_pop (r' := (st.ro, st.L)) k1
  refine ⟨by rw [e2]; exact ht.1, fun M i B hh => ?_⟩
  have hl : A'.length = st.A.length := by have := congrArg List.length ht.1; simpa [tagsA] using this
  have hM : M < A'.length := by obtain ⟨r0, j, q1, q2⟩ := hh; rw [hl]; exact lt_of_get q1
  simp only [fillA_push hh, k2 M i B hh.push, Option.bind_some]
  exact e3 M i B hM

theorem fr_callM {O : Orc} (hO : FrO O) (m : CM) (f : FuncId) (args : List AV) : FrP fun st => callM O m f args st := by
  cases m with
  | norm => exact hO f args
  | own =>
    intro st r hr
    simp only [callM, Option.bind_eq_some_iff, ownK] at hr
    obtain ⟨⟨v, s1⟩, h1, h2⟩ := hr
    split at h2
    · rename_i hl
      simp only [Option.some.injEq] at h2; subst h2
      obtain ⟨k1, k2⟩ := hO f args _ _ h1
      refine ⟨k1, fun M i B hh => ?_⟩
      have q : O f args { st.fillA M i B with ro := true } = some (v, s1.fillA M i B) := k2 M i B hh
      show (O f args { st.fillA M i B with ro := true }).bind (ownK (st.fillA M i B)) = _
      rw [q, Option.bind_some, ownK, if_pos]
      · rfl
      · simp only [St.fillA, fillA_length]; exact hl
    · simp at h2
  | pure =>
    intro st r hr
    simp only [callM, Option.bind_eq_some_iff, pureK, Option.some.injEq] at hr
    obtain ⟨⟨v, s1⟩, h1, rfl⟩ := hr
    obtain ⟨k1, k2⟩ := hO f args _ _ h1
    refine ⟨rfl, fun M i B hh => ?_⟩
    simp only [callM, fillA_allRo, k2 M i B hh.allRo, Option.bind_some, pureK]
  | inner => exact (fr_leave (fr_seal hO f args)).congr fun st => inner_eq O f args st
  | move => exact fr_move (hO f args)
  | pin =>
    have h1 : FrP fun st => callM O .inner f args st := (fr_leave (fr_seal hO f args)).congr fun st => inner_eq O f args st
    intro st r hr
    have hr' : (callM O .inner f args st.allRo).bind (pureK st) = some r := hr
    simp only [Option.bind_eq_some_iff, pureK, Option.some.injEq] at hr'
    obtain ⟨⟨v, s1⟩, h2, rfl⟩ := hr'
    obtain ⟨k1, k2⟩ := h1 _ _ h2
    refine ⟨rfl, fun M i B hh => ?_⟩
    have q := k2 M i B hh.allRo
    simp only [← fillA_allRo] at q
    show (callM O .inner f args (st.fillA M i B).allRo).bind (pureK (st.fillA M i B)) = _
    rw [q]; rfl

theorem fr_callV {O : Orc} (hO : FrO O) (m : CM) (args : List AV) (v : AV) : FrP fun st => callV O m args st v := by
  unfold callV
  split
  · exact fr_callM hO m _ _
  · exact FrP.nope

theorem fr_PI {O : Orc} (hO : FrO O) (e : Env) (o : PO) : FrP fun st => evalPI O e st o := by
  have h := fr_op e o
  cases o
  case call m f args => exact fr_callV hO m _ _
  case w k o => exact fr_w e o k
  all_goals exact h

theorem fillA_mask {st : St} {M i : Nat} {B : Blk} : (st.fillA M i B).mask = st.mask := by
  simp only [St.mask, St.fillA, St.mk.injEq, and_true]
  apply List.ext_getElem?
  intro k
  rw [List.getElem?_map, List.getElem?_map, fillA_get]
  cases st.A[k]? <;> rfl

theorem fr_I {O : Orc} (hO : FrO O) (e : Env) (i : PI) : FrP fun st => evalI O e st i := by
  unfold evalI
  by_cases h : i.own = true
  · simp only [if_pos h]
    by_cases hr : i.op.reads = true
    · simp only [if_pos hr]
      intro st r hr'
      simp only [Option.bind_eq_some_iff, pureK, Option.some.injEq] at hr'
      obtain ⟨q, hq, rfl⟩ := hr'
      refine ⟨rfl, fun M j B hh => ?_⟩
      simp only [fillA_mask, hq, Option.bind_some, pureK]
    · simp only [if_neg hr]; exact FrP.nope
  · simp only [if_neg h]; exact fr_PI hO e i.op

theorem fr_Is {O : Orc} (hO : FrO O) : ∀ (is : List PI) (e : Env), FrP fun st => runIs O is e st
  | [], e => FrP.ret e
  | i :: is, e => by
    refine FrP.congr (F := fun st => (wantedV e i.guard).bind fun b => match b with
      | true => (evalI O e st i).bind fun r => runIs O is (setD e i.dst r.1) r.2
      | false => runIs O is (setD e i.dst .undef) st) ?_ ?_
    · cases wantedV e i.guard with
      | none => exact FrP.nope
      | some b =>
        cases b with
        | true => exact FrP.bind (G := fun v st => runIs O is (setD e i.dst v) st) (fr_I hO e i) fun v => fr_Is hO is _
        | false => exact fr_Is hO is _
    · intro st
      simp only [runIs]
      cases wantedV e i.guard with
      | none => rfl
      | some b => cases b <;> rfl

/-- The same, of runs. -/
def FrX (F : Run) : Prop := ∀ e, FrP fun st => (F e st).map fun r => ((r.1, r.2.1), r.2.2)

theorem FrX.to {F : Run} (h : FrX F) {e : Env} {st : St} {r : Ex × Env × St} (hr : F e st = some r) : tagsA r.2.2.A = tagsA st.A ∧ ∀ M i B, HoleIn st.A M i → F e (st.fillA M i B) = some (r.1, r.2.1, r.2.2.fillA M i B) := by
  obtain ⟨h1, h2⟩ := h e st ((r.1, r.2.1), r.2.2) (by simp only [hr, Option.map_some])
  refine ⟨h1, fun M i B hh => ?_⟩
  have := h2 M i B hh
  simp only [Option.map_eq_some_iff, Prod.mk.injEq] at this
  obtain ⟨q, hq, ⟨q1, q2⟩, q3⟩ := this
  rw [hq]
  obtain ⟨a, b, c⟩ := q
  simp only at q1 q2 q3
  rw [q1, q2, q3]

theorem FrX.of {F : Run} (h : ∀ e st r, F e st = some r → tagsA r.2.2.A = tagsA st.A ∧ ∀ M i B, HoleIn st.A M i → F e (st.fillA M i B) = some (r.1, r.2.1, r.2.2.fillA M i B)) : FrX F := by
  intro e st r hr
  simp only [Option.map_eq_some_iff] at hr
  obtain ⟨q, hq, rfl⟩ := hr
  obtain ⟨h1, h2⟩ := h e st q hq
  exact ⟨h1, fun M i B hh => by simp only [h2 M i B hh, Option.map_some]⟩

theorem frx_seqK {F : Run} (h : FrX F) {x : Ex × Env × St} {r : Ex × Env × St} (hr : seqK F x = some r) : tagsA r.2.2.A = tagsA x.2.2.A ∧ ∀ M i B, HoleIn x.2.2.A M i → seqK F (x.1, x.2.1, x.2.2.fillA M i B) = some (r.1, r.2.1, r.2.2.fillA M i B) := by
  obtain ⟨x, e, st⟩ := x
  cases x with
  | norm => exact h.to hr
  | ex id => simp only [seqK, Option.some.injEq] at hr; subst hr; exact ⟨rfl, fun _ _ _ _ => rfl⟩
  | ret => simp only [seqK, Option.some.injEq] at hr; subst hr; exact ⟨rfl, fun _ _ _ _ => rfl⟩

theorem frx_bind {F : Run} {K : Ex × Env × St → Option (Ex × Env × St)} (h : FrX F) (k : ∀ x r, K x = some r → tagsA r.2.2.A = tagsA x.2.2.A ∧ ∀ M i B, HoleIn x.2.2.A M i → K (x.1, x.2.1, x.2.2.fillA M i B) = some (r.1, r.2.1, r.2.2.fillA M i B)) :
    FrX fun e st => (F e st).bind K := by
  refine FrX.of fun e st r hr => ?_
  simp only [Option.bind_eq_some_iff] at hr
  obtain ⟨x, hx, hr⟩ := hr
  obtain ⟨h1, h2⟩ := h.to hx
  obtain ⟨k1, k2⟩ := k x r hr
  exact ⟨k1.trans h1, fun M i B hh => by simp only [h2 M i B hh, Option.bind_some]; exact k2 M i B (hh.of_tags h1)⟩

theorem frx_iter {F : Run} (h : FrX F) : ∀ n, FrX (iter F n)
  | 0 => FrX.of fun e st r hr => by simp [iter] at hr
  | n + 1 => frx_bind h fun x r hr => frx_seqK (frx_iter h n) hr

theorem frx_exec {O : Orc} (hO : FrO O) (n : Nat) : ∀ pc : PC, FrX (exec O (fun F => iter F n) pc) := by
  intro pc
  induction pc with
  | skip => exact FrX.of fun e st r hr => by simp only [exec, Option.some.injEq] at hr; subst hr; exact ⟨rfl, fun _ _ _ _ => rfl⟩
  | ret => exact FrX.of fun e st r hr => by simp only [exec, Option.some.injEq] at hr; subst hr; exact ⟨rfl, fun _ _ _ _ => rfl⟩
  | exit id => exact FrX.of fun e st r hr => by simp only [exec, Option.some.injEq] at hr; subst hr; exact ⟨rfl, fun _ _ _ _ => rfl⟩
  | seq a b iha ihb => exact frx_bind iha fun x r hr => frx_seqK ihb hr
  | ite c a b iha ihb =>
    refine FrX.of fun e st r hr => ?_
    simp only [exec] at hr ⊢
    unfold iteV at hr ⊢
    split at hr
    · exact iha.to hr
    · exact ihb.to hr
    · simp at hr
  | block id b ih =>
    refine frx_bind ih fun x r hr => ?_
    obtain ⟨x, e, st⟩ := x
    cases x with
    | norm => simp only [blockK, Option.some.injEq] at hr; subst hr; exact ⟨rfl, fun _ _ _ _ => rfl⟩
    | ret => simp only [blockK, Option.some.injEq] at hr; subst hr; exact ⟨rfl, fun _ _ _ _ => rfl⟩
    | ex id' =>
      simp only [blockK] at hr ⊢
      split at hr <;> simp only [Option.some.injEq] at hr <;> subst hr
      · rename_i hi; exact ⟨rfl, fun _ _ _ _ => by rw [if_pos hi]⟩
      · rename_i hi; exact ⟨rfl, fun _ _ _ _ => by rw [if_neg hi]⟩
  | loop b ih => exact frx_iter ih n
  | reg keep is =>
    refine FrX.of fun e st r hr => ?_
    simp only [exec, Option.bind_eq_some_iff, regK, Option.some.injEq] at hr
    obtain ⟨q, hq, rfl⟩ := hr
    obtain ⟨h1, h2⟩ := fr_Is hO is e st q hq
    exact ⟨h1, fun M i B hh => by simp only [exec, h2 M i B hh, Option.bind_some, regK]⟩
  | regH js keep is =>
    refine FrX.of fun e st r hr => ?_
    simp only [exec, Option.bind_eq_some_iff, regK, Option.some.injEq, padH] at hr
    obtain ⟨s1, hs, q, hq, rfl⟩ := hr
    split at hs
    · simp at hs
    · rename_i hro
      simp only [Option.some.injEq] at hs; subst hs
      obtain ⟨h1, h2⟩ := fr_Is hO is e _ q hq
      refine ⟨h1, fun M i B hh => ?_⟩
      have := h2 M i B hh
      have hp : padH js (st.fillA M i B) = some (({ st with L := st.L ++ js.map Blk.hole } : St).fillA M i B) := by
        unfold padH
        exact if_neg hro
      simp only [exec, hp, Option.bind_some]
      simp only at this
      rw [this]; rfl

theorem resV_fr {st : St} {e : Env} {rv : RV} {v : AV} {M i : Nat} {B : Blk} (hh : HoleIn st.A M i) (h : resV st e rv = some v) : resV (st.fillA M i B) e rv = some v := by
  cases rv with
  | s t => exact h
  | c t agg n => exact (fill_more hh).loadP h

theorem resL_fr {st : St} {e : Env} {M i : Nat} {B : Blk} (hh : HoleIn st.A M i) : ∀ {rs : List RV} {vs : List AV}, resL st e rs = some vs → resL (st.fillA M i B) e rs = some vs
  | [], vs, h => h
  | r :: rs, vs, h => by
    simp only [resL, Option.bind_eq_some_iff, Option.map_eq_some_iff] at h ⊢
    obtain ⟨v, hv, ws, hw, rfl⟩ := h
    exact ⟨v, resV_fr hh hv, ws, resL_fr hh hw, rfl⟩

theorem fr_result (e : Env) (rs : List RV) : ∀ st v, result st e rs = some v → ∀ M i B, HoleIn st.A M i → result (st.fillA M i B) e rs = some v := by
  intro st v h M i B hh
  simp only [result, Option.map_eq_some_iff] at h ⊢
  obtain ⟨vs, hv, rfl⟩ := h
  exact ⟨vs, resL_fr hh hv, rfl⟩

theorem endK_inv {keep : Bool} {rs : List RV} {x : Ex × Env × St} {r : AV × St} (h : endK keep rs x = some r) : ∃ v, result x.2.2 x.2.1 rs = some v ∧ (if keep = true then ret1 x.2.2 v else sealK x.2.2 v) = some r ∧ ∀ st, endK keep rs (x.1, x.2.1, st) = (result st x.2.1 rs).bind (if keep = true then ret1 st else sealK st) := by
  obtain ⟨x, e, st⟩ := x
  cases x with
  | norm =>
    simp only [endK, Option.bind_eq_some_iff] at h
    obtain ⟨v, h1, h2⟩ := h
    refine ⟨v, h1, ?_, fun st => rfl⟩
    cases keep <;> exact h2
  | ret =>
    simp only [endK, Option.bind_eq_some_iff] at h
    obtain ⟨v, h1, h2⟩ := h
    refine ⟨v, h1, ?_, fun st => rfl⟩
    cases keep <;> exact h2
  | ex id => simp [endK] at h

theorem fr_body {O : Orc} (hO : FrO O) (n : Nat) (pf : PF) (args : List AV) : FrP fun st => callBody O (fun F => iter F n) pf args st := by
  have hx := frx_exec hO n pf.body
  cases hk : pf.keep with
  | true =>
    intro st r hr
    simp only [callBody, hk, if_true, Option.bind_eq_some_iff] at hr
    obtain ⟨x, h1, h2⟩ := hr
    obtain ⟨k1, k2⟩ := hx.to h1
    obtain ⟨v, e1, e2, e3⟩ := endK_inv h2
    simp only [if_true, ret1, Option.some.injEq] at e2; subst e2
    refine ⟨k1, fun M i B hh => ?_⟩
    simp only [callBody, hk, if_true, k2 M i B hh, Option.bind_some]
    rw [e3, fr_result _ _ _ _ e1 M i B (hh.of_tags k1)]
    rfl
  | false =>
    have h1 : FrP fun st => (exec O (fun F => iter F n) pf.body (initEnv 0 args) st).bind fun x => match x.1 with
      | .ex _ => none
      | _ => (result x.2.2 x.2.1 pf.res).bind fun v => sealV deep x.2.2.A.length x.2.2 v := by
      intro st r hr
      simp only [Option.bind_eq_some_iff] at hr
      obtain ⟨x, q1, q2⟩ := hr
      obtain ⟨k1, k2⟩ := hx.to q1
      have key : ∀ x : Ex × Env × St, (match x.1 with
          | .ex _ => none
          | _ => (result x.2.2 x.2.1 pf.res).bind fun v => sealV deep x.2.2.A.length x.2.2 v) = some r → tagsA r.2.A = tagsA x.2.2.A ∧ ∀ M i B, HoleIn x.2.2.A M i → (match x.1 with
          | .ex _ => none
          | _ => (result (x.2.2.fillA M i B) x.2.1 pf.res).bind fun v => sealV deep (x.2.2.fillA M i B).A.length (x.2.2.fillA M i B) v) = some (r.1, r.2.fillA M i B) := by
        rintro ⟨x, e, s⟩ q
        have main : (result s e pf.res).bind (fun v => sealV deep s.A.length s v) = some r → tagsA r.2.A = tagsA s.A ∧ ∀ M i B, HoleIn s.A M i → (result (s.fillA M i B) e pf.res).bind (fun v => sealV deep (s.fillA M i B).A.length (s.fillA M i B) v) = some (r.1, r.2.fillA M i B) := by
          intro q
          simp only [Option.bind_eq_some_iff] at q
          obtain ⟨v, w1, w2⟩ := q
          obtain ⟨l1, l2⟩ := (LO.seal deep s.A.length v).fr s r w2
          refine ⟨l1, fun M i B hh => ?_⟩
          have := l2 M i B hh
          simp only [St.fillA, fillA_length] at this ⊢
          have w3 := fr_result _ _ _ _ w1 M i B hh
          simp only [St.fillA] at w3
          rw [w3, Option.bind_some]
          exact this
        cases x with
        | norm => exact main q
        | ret => exact main q
        | ex id => simp at q
      obtain ⟨m1, m2⟩ := key x q2
      refine ⟨m1.trans k1, fun M i B hh => ?_⟩
      simp only [k2 M i B hh, Option.bind_some]
      exact m2 M i B (hh.of_tags k1)
    refine (fr_leave h1).congr fun st => ?_
    simp only [callBody, hk, Bool.false_eq_true, if_false, Option.bind_assoc]
    congr 1
    funext x
    obtain ⟨x, e, s⟩ := x
    cases x <;> simp only [endK, Bool.false_eq_true, if_false, Option.bind_assoc, sealK, Option.bind_none] <;> rfl

end Go.QAbs
