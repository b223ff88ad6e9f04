/- Maps. No condition. -/
import Derived.Test.YtmkjnglbfgajbaaQV
import Derived.Laws.StructEq
namespace Go.QAbs
set_option linter.unusedVariables false
set_option linter.unusedSimpArgs false
open Go.RowKit (Below)

section
variable {P : Program} {W0 : World} {B0 : Nat} {st st' : St} {ρ : Rho} {W : World} {e : Env} {a : Act}

/-- The entries of a map and what is said of them. -/
def EntR (C : Cx) (es : List (AV × AV)) (en : List MapEntry) : Prop :=
  es.length = en.length ∧ ∀ (i : Nat) (k v : AV) (x : MapEntry), es[i]? = some (k, v) → en[i]? = some x → isKey k = true ∧ R C k x.key ∧ R C v x.val

theorem EntR.tail {C : Cx} {p : AV × AV} {es : List (AV × AV)} {x : MapEntry} {en : List MapEntry} (h : EntR C (p :: es) (x :: en)) : EntR C es en :=
  ⟨by have := h.1; simpa using this, fun i k v y hk hy => h.2 (i + 1) k v y (by simpa using hk) (by simpa using hy)⟩

theorem MapOk.ent {B0 : Nat} {C : Cx} {l : Loc} {es : List (AV × AV)} (h : MapOk B0 C W l es) : ∃ en clock, W.heap[l.b]? = some (.map en clock) ∧ EntR C es en.toList := by
  obtain ⟨_, en, clock, h1, h2, h3⟩ := h
  refine ⟨en, clock, h1, by simp [h2], fun i k v x hk hx => ?_⟩
  obtain ⟨q1, y, q2, q3, q4⟩ := h3 i k v hk
  rw [Array.getElem?_toList, q2] at hx
  simp only [Option.some.injEq] at hx; subst hx
  exact ⟨q1, q3, q4⟩

def kindD (kk : Nat) (d : TypeDesc) : Prop := (kk = 0 ∧ ∃ k, d = .int k) ∨ (kk = 1 ∧ d = .string) ∨ (kk = 2 ∧ d = .bool)

theorem keyK_ok {t : TypeId} {kk : Nat} (h : keyK P t = some kk) : ∃ d, P.underlying t = some d ∧ kindD kk d := by
  unfold keyK at h
  split at h <;> simp only [Option.some.injEq, reduceCtorEq] at h <;> subst h
  · rename_i k hk; exact ⟨_, hk, .inl ⟨rfl, k, rfl⟩⟩
  · rename_i hk; exact ⟨_, hk, .inr (.inl ⟨rfl, rfl⟩)⟩
  · rename_i hk; exact ⟨_, hk, .inr (.inr ⟨rfl, rfl⟩)⟩

theorem sameNow_ok {kk : Nat} {d : TypeDesc} (hd : kindD kk d) {k k' : AV} {b : Bool} (hk : keyIs kk k = true) (h : keyEq k k' = some b) {C : Cx} {x y : Value} (hx : R C k x) (hy : R C k' y) :
    Instr.sameNow d x y = some b ∧ (b = true → x = y) := by
  unfold keyEq at h
  split at h
  · have := getInt hx; subst this
    have := getInt hy; subst this
    split at h
    · rename_i hkk; subst hkk
      simp only [Option.some.injEq] at h; subst h
      rcases hd with ⟨rfl, k0, rfl⟩ | ⟨rfl, rfl⟩ | ⟨rfl, rfl⟩
      · exact ⟨by simp [Instr.sameNow], by simp⟩
      · simp [keyIs] at hk
      · simp [keyIs] at hk
    · simp at h
  · have := getStr hx; subst this
    have := getStr hy; subst this
    simp only [Option.some.injEq] at h; subst h
    rcases hd with ⟨rfl, k0, rfl⟩ | ⟨rfl, rfl⟩ | ⟨rfl, rfl⟩
    · simp [keyIs] at hk
    · refine ⟨?_, by simp⟩
      simp only [Instr.sameNow, beq_toListBytes, bytes_toList]
    · simp [keyIs] at hk
  · have := getBool hx; subst this
    have := getBool hy; subst this
    simp only [Option.some.injEq] at h; subst h
    rcases hd with ⟨rfl, k0, rfl⟩ | ⟨rfl, rfl⟩ | ⟨rfl, rfl⟩
    · simp [keyIs] at hk
    · simp [keyIs] at hk
    · exact ⟨by simp [Instr.sameNow], by simp⟩
  · simp at h

theorem findE_ok {kk : Nat} {d : TypeDesc} (hd : kindD kk d) {k : AV} (hk : keyIs kk k = true) {C : Cx} {kx : Value} (hkx : R C k kx) :
    ∀ {es : List (AV × AV)} {en : List MapEntry} (i0 : Nat) {r : Option AV}, EntR C es en → findE k es = some r →
      (∀ v, r = some v → ∃ idx k0 x, es[idx]? = some (k0, v) ∧ en[idx]? = some x ∧ x.key = kx ∧ Instr.findNow d kx en i0 = some (some (i0 + idx, x.val)) ∧ (∀ u, putE k u es = some (es.set idx (k, u))) ∧ delE k es = some (es.eraseIdx idx)) ∧
      (r = none → Instr.findNow d kx en i0 = some none ∧ (∀ u, putE k u es = some (es ++ [(k, u)])) ∧ delE k es = some es)
  | [], en, i0, r, he, h => by
    simp only [findE, Option.some.injEq] at h; subst h
    have : en = [] := by have := he.1; simp at this; exact List.length_eq_zero_iff.1 this.symm
    subst this
    exact ⟨fun v h => by simp at h, fun _ => ⟨rfl, fun u => rfl, rfl⟩⟩
  | (k', v') :: es, en, i0, r, he, h => by
    cases en with
    | nil => have := he.1; simp at this
    | cons x en =>
      obtain ⟨h1, h2, h3⟩ := he.2 0 k' v' x rfl rfl
      simp only [findE, Option.bind_eq_some_iff] at h
      obtain ⟨b, hb, h⟩ := h
      obtain ⟨s1, s2⟩ := sameNow_ok hd hk hb hkx h2
      cases b with
      | true =>
        simp only [if_true, Option.some.injEq] at h; subst h
        refine ⟨fun v hv => ?_, fun hn => by simp at hn⟩
        simp only [Option.some.injEq] at hv; subst hv
        exact ⟨0, k', x, rfl, rfl, (s2 rfl).symm, by simp [Instr.findNow, s1], fun u => by simp [putE, hb], by simp [delE, hb]⟩
      | false =>
        simp only [Bool.false_eq_true, if_false] at h
        obtain ⟨q1, q2⟩ := findE_ok hd hk hkx (i0 + 1) he.tail h
        refine ⟨fun v hv => ?_, fun hn => ?_⟩
        · obtain ⟨idx, k0, y, e1, e2, e3, e4, e5, e6⟩ := q1 v hv
          exact ⟨idx + 1, k0, y, by simpa using e1, by simpa using e2, e3, by simp only [Instr.findNow, s1, e4]; congr 3; omega, fun u => by simp [putE, hb, e5], by simp [delE, hb, e6]⟩
        · obtain ⟨e4, e5, e6⟩ := q2 hn
          exact ⟨by simp [Instr.findNow, s1, e4], fun u => by simp [putE, hb, e5], by simp [delE, hb, e6]⟩

theorem find_of_put {k u : AV} : ∀ {es es' : List (AV × AV)}, putE k u es = some es' → ∃ r, findE k es = some r
  | [], _, _ => ⟨none, rfl⟩
  | e :: es, es', h => by
    simp only [putE, Option.bind_eq_some_iff] at h
    obtain ⟨b, hb, h⟩ := h
    cases b with
    | true => exact ⟨some e.2, by simp [findE, hb]⟩
    | false =>
      simp only [Bool.false_eq_true, if_false, Option.map_eq_some_iff] at h
      obtain ⟨l, hl, _⟩ := h
      obtain ⟨r, hr⟩ := find_of_put hl
      exact ⟨r, by simp [findE, hb, hr]⟩

theorem find_of_del {k : AV} : ∀ {es es' : List (AV × AV)}, delE k es = some es' → ∃ r, findE k es = some r
  | [], _, _ => ⟨none, rfl⟩
  | e :: es, es', h => by
    simp only [delE, Option.bind_eq_some_iff] at h
    obtain ⟨b, hb, h⟩ := h
    cases b with
    | true => exact ⟨some e.2, by simp [findE, hb]⟩
    | false =>
      simp only [Bool.false_eq_true, if_false, Option.map_eq_some_iff] at h
      obtain ⟨l, hl, _⟩ := h
      obtain ⟨r, hr⟩ := find_of_del hl
      exact ⟨r, by simp [findE, hb, hr]⟩

theorem checkKey_ok {kk : Nat} {t : TypeId} {d : TypeDesc} (hu : P.underlying t = some d) (hd : kindD kk d) (emp : Bool) (n : Nat) (v : Value) : (Instr.checkKey emp (n + 1) t v).run P W = .ok () W := by
  rcases hd with ⟨rfl, k0, rfl⟩ | ⟨rfl, rfl⟩ | ⟨rfl, rfl⟩ <;> simp [Instr.checkKey, run_und hu]

theorem findKey_ok {t : TypeId} {d : TypeDesc} (hu : P.underlying t = some d) {kx : Value} {en : List MapEntry} {r : Option (Nat × Value)} (h : Instr.findNow d kx en 0 = some r) : (Instr.findKey t kx en).run P W = .ok r W := by
  simp [Instr.findKey, run_und hu, h]

theorem keyIs_isKey {kk : Nat} {k : AV} (h : keyIs kk k = true) : isKey k = true := by
  cases k <;> first | rfl | (unfold keyIs at h; split at h <;> simp_all)

theorem getObj_map {r : Nat} {en : Array MapEntry} {clock : Nat} (h : W.heap[r]? = some (.map en clock)) : (getObj r).run P W = .ok (.map en clock) W := by
  simp [getObj, Sem.run, h]

theorem setObj_map {r : Nat} {en : Array MapEntry} {clock : Nat} (h : W.heap[r]? = some (.map en clock)) (o : Obj) : (setObj r o).run P W = .ok () { W with heap := W.heap.setIfInBounds r o } := by
  simp [setObj, Sem.run, h]

theorem mapB_inv {b : Option Blk} {es : List (AV × AV)} (h : mapB b = some es) : b = some (.map es) := by
  unfold mapB at h
  split at h
  · simp only [Option.some.injEq] at h; subst h; rfl
  · simp at h

theorem lookV_ok (hr : Rel W0 B0 st ρ W) {kk : Nat} {z k m v : AV} {ok : Bool} (h : lookV st kk z ok k m = some v) {kx mx : Value} (hk : R (cx st ρ W st.A.length) k kx) (hm : R (cx st ρ W st.A.length) m mx)
    {t key el : TypeId} (ht : P.underlying t = some (.map key el)) (hkk : keyK P key = some kk) (hz : zeroC P el = some z) :
    ∃ x, (Instr.lookup t mx kx ok).run P W = .ok x W ∧ R (cx st ρ W st.A.length) v x := by
  obtain ⟨d, hu, hd⟩ := keyK_ok hkk
  obtain ⟨zv, hzr, hzc, _⟩ := run_zero (W := W) hz
  simp only [lookV, Option.bind_eq_some_iff] at h
  obtain ⟨es, hes, h⟩ := h
  split at h
  · rename_i hki
    simp only [Option.map_eq_some_iff] at h
    obtain ⟨r, hfind, rfl⟩ := h
    have hent : ∃ en : Array MapEntry, EntR (cx st ρ W st.A.length) es en.toList ∧ ((mx = .map none ∧ en = #[]) ∨ ∃ r clock, mx = .map (some r) ∧ W.heap[r]? = some (.map en clock)) := by
      unfold mapOf at hes
      split at hes
      · simp only [Option.some.injEq] at hes; subst hes
        cases hm with
        | nilmap => exact ⟨#[], ⟨rfl, by simp⟩, .inl ⟨rfl, rfl⟩⟩
      · rename_i lv ix
        have hg := mapB_inv hes
        cases hm with
        | map hp =>
          obtain ⟨p1, p2, r, rfl, p3⟩ := hp
          have := p3 es hg; subst this
          obtain ⟨en, clock, h1, h2⟩ := (hr.map lv ix es hg).ent
          refine ⟨en, ⟨h2.1, fun i k v x a b => ?_⟩, .inr ⟨_, clock, rfl, h1⟩⟩
          obtain ⟨q1, q2, q3⟩ := h2.2 i k v x a b
          exact ⟨q1, q2.mono (cx_lv p1), q3.mono (cx_lv p1)⟩
      · simp at hes
    obtain ⟨en, hER, hmx⟩ := hent
    obtain ⟨f1, f2⟩ := findE_ok hd hki hk 0 hER hfind
    have hfk : (∃ w, r = some w ∧ ∃ x, (Instr.findKey key kx en.toList).run P W = .ok (some x) W ∧ R (cx st ρ W st.A.length) w x.2) ∨ (r = none ∧ (Instr.findKey key kx en.toList).run P W = .ok none W) := by
      cases r with
      | none => exact .inr ⟨rfl, findKey_ok hu (f2 rfl).1⟩
      | some w =>
        obtain ⟨idx, k0, x, e1, e2, e3, e4, _⟩ := f1 w rfl
        exact .inl ⟨w, rfl, _, findKey_ok hu e4, (hER.2 idx k0 w x e1 e2).2.2⟩
    have hck := checkKey_ok (P := P) (W := W) hu hd en.isEmpty 9999 kx
    have hrun : ∀ q, (Instr.findKey key kx en.toList).run P W = .ok q W → (Instr.lookup t mx kx ok).run P W =
        .ok (if ok = true then .tuple #[(match q with | some x => x.2 | none => zv), .bool q.isSome] else (match q with | some x => x.2 | none => zv)) W := by
      intro q hq
      rcases hmx with ⟨rfl, rfl⟩ | ⟨r', clock, rfl, hob⟩
      · simp only [Instr.lookup, Sem.run_bind, run_und ht, Result.andThen_ok, Sem.run_pure, hck, hq]
        cases q <;> simp [hzr]
      · simp only [Instr.lookup, Sem.run_bind, run_und ht, Result.andThen_ok, Sem.run_pure, getObj_map hob, hck, hq]
        cases q <;> simp [hzr]
    rcases hfk with ⟨w, rfl, x, hx, hrx⟩ | ⟨rfl, hx⟩
    · refine ⟨_, hrun _ hx, ?_⟩
      simp only [lookR, Option.isSome_some]
      split
      · exact .tup' (.cons hrx (.cons (.bool _) (.nil _)))
      · exact hrx
    · refine ⟨_, hrun _ hx, ?_⟩
      simp only [lookR, Option.isSome_none]
      split
      · exact .tup' (.cons (hzc _) (.cons (.bool _) (.nil _)))
      · exact hzc _
  · simp at h

theorem sameBits_ok {kk : Nat} {k : AV} (hk : keyIs kk k = true) {C : Cx} {x : Value} (hx : R C k x) (n : Nat) : Instr.sameBits n x x = true := by
  unfold keyIs at hk
  split at hk
  · have := getInt hx; subst this; simp [Instr.sameBits]
  · have := getStr hx; subst this; simp only [Instr.sameBits, beq_toListBytes, bytes_toList]; simp
  · have := getBool hx; subst this; simp [Instr.sameBits]
  · simp at hk

theorem mupdV_ok (hr : Rel W0 B0 st ρ W) {kk : Nat} {k v m : AV} (h : mupdV st kk k v m = some st') {kx vx mx : Value} (hk : R (cx st ρ W st.A.length) k kx) (hv : R (cx st ρ W st.A.length) v vx) (hm : R (cx st ρ W st.A.length) m mx)
    {t key el : TypeId} (ht : P.underlying t = some (.map key el)) (hkk : keyK P key = some kk) :
    ∃ W', (Instr.mapUpdate t mx kx vx).run P W = .ok () W' ∧ Goes W0 B0 st ρ W st' ρ W' := by
  obtain ⟨d, hu, hd⟩ := keyK_ok hkk
  unfold mupdV at h
  split at h
  · rename_i lv ix
    split at h
    · rename_i hki
      simp only [Option.bind_eq_some_iff] at h
      obtain ⟨⟨v', st1⟩, hseal, h⟩ := h
      cases hm with
      | map hp =>
        have hp' := hp
        obtain ⟨p1, p2, r, rfl, p3⟩ := hp
        obtain ⟨g1, r1⟩ := sealV_ok deep (lv + 1) st v vx v' st1 hr (by omega) hv hseal
        have r1' : R (cx st1 ρ W lv) v' vx := r1
        obtain ⟨_, _, r', hrr, p3'⟩ := (g1.ev.le st.A.length (Nat.le_refl _)).map lv ix _ hp'
        simp only [Value.map.injEq, Option.some.injEq] at hrr; subst hrr
        simp only [mupdK, Option.bind_eq_some_iff] at h
        obtain ⟨es, hes, es', hput, hst⟩ := h
        have hg := mapB_inv hes
        have := p3' es hg; subst this
        obtain ⟨en, clock, h1, h2⟩ := (g1.rel.map lv ix es hg).ent
        have hk' : R (cx st1 ρ W lv) k kx := by
          unfold keyIs at hki
          split at hki
          · rw [getInt hk]; exact .int _ _
          · rw [getStr hk]; exact .str _
          · rw [getBool hk]; exact .bool _
          · simp at hki
        obtain ⟨rr, hfind⟩ := find_of_put hput
        obtain ⟨f1, f2⟩ := findE_ok hd hki hk' 0 h2 hfind
        have hck := checkKey_ok (P := P) (W := W) hu hd false 9999 kx
        cases rr with
        | none =>
          obtain ⟨e4, e5, _⟩ := f2 rfl
          rw [e5] at hput
          simp only [Option.some.injEq] at hput; subst hput
          refine ⟨{ W with heap := W.heap.setIfInBounds (ρ lv ix).b (.map (en.push { key := kx, val := vx, born := clock }) (clock + 1)) }, ?_, g1.trans (write_map g1.rel hg hst (by simp [h2.1]) ?_)⟩
          · simp only [Instr.mapUpdate, Sem.run_bind, run_und ht, Result.andThen_ok, getObj_map h1, hck, findKey_ok hu e4, setObj_map h1]
          · intro i k0 v0 hkv
            by_cases hi : i < es.length
            · rw [List.getElem?_append_left hi] at hkv
              have hi' : i < en.size := by have := h2.1; simp at this; omega
              have hx : en.toList[i]? = some en[i] := by simp [hi']
              obtain ⟨q1, q2, q3⟩ := h2.2 i k0 v0 _ hkv hx
              exact ⟨q1, en[i], by rw [Array.getElem?_push_lt hi'], q2, q3⟩
            · have hlt := lt_of_get hkv
              simp at hlt
              have : i = es.length := by omega
              subst this
              simp at hkv
              obtain ⟨rfl, rfl⟩ := hkv
              have : es.length = en.size := by have := h2.1; simpa using this
              rw [this]
              exact ⟨keyIs_isKey hki, _, Array.getElem?_push_size, hk', r1'⟩
        | some w =>
          obtain ⟨idx, k0, x, e1, e2, e3, e4, e5, _⟩ := f1 w rfl
          rw [e5] at hput
          simp only [Option.some.injEq] at hput; subst hput
          have hidx := lt_of_get e2
          have hx : en[idx]? = some x := by simpa using e2
          have hsb := sameBits_ok hki hk' 10000
          have hkts : (Instr.keyThatStays (((en[idx]?).map (·.key)).getD kx) kx).run P W = .ok kx W := by
            simp [Instr.keyThatStays, hx, e3, hsb]
          refine ⟨{ W with heap := W.heap.setIfInBounds (ρ lv ix).b (.map (en.modify idx fun e => { e with key := kx, val := vx }) clock) }, ?_, g1.trans (write_map g1.rel hg hst (by simp [h2.1]) ?_)⟩
          · simp only [Nat.zero_add] at e4
            simp only [Instr.mapUpdate, Sem.run_bind, run_und ht, Result.andThen_ok, getObj_map h1, hck, findKey_ok hu e4, hkts, setObj_map h1]
          · intro i k1 v1 hkv
            rw [List.getElem?_set] at hkv
            rw [Array.getElem?_modify]
            by_cases hii : idx = i
            · subst hii
              rw [if_pos rfl] at hkv
              split at hkv
              · simp only [Option.some.injEq, Prod.mk.injEq] at hkv
                obtain ⟨rfl, rfl⟩ := hkv
                rw [if_pos rfl, hx]
                exact ⟨keyIs_isKey hki, _, rfl, hk', r1'⟩
              · simp at hkv
            · rw [if_neg hii] at hkv
              rw [if_neg hii]
              have hi := lt_of_get hkv
              have hi' : i < en.size := by have := h2.1; simp at this; omega
              have hy : en.toList[i]? = some en[i] := by simp [hi']
              obtain ⟨q1, q2, q3⟩ := h2.2 i k1 v1 _ hkv hy
              exact ⟨q1, en[i], Array.getElem?_eq_getElem hi', q2, q3⟩
    · simp at h
  · simp at h

theorem mdelV_ok (hr : Rel W0 B0 st ρ W) {kk : Nat} {k m : AV} (h : mdelV st kk k m = some st') {kx mx : Value} (hk : R (cx st ρ W st.A.length) k kx) (hm : R (cx st ρ W st.A.length) m mx)
    {t key el u ty : TypeId} (ht : P.underlying t = some (.map key el)) (hkk : keyK P key = some kk) :
    ∃ W', (Builtin.delete_ #[t, u] ty #[mx, kx]).run P W = .ok (.tuple #[]) W' ∧ Goes W0 B0 st ρ W st' ρ W' := by
  obtain ⟨d, hu, hd⟩ := keyK_ok hkk
  unfold mdelV at h
  split at h
  · rename_i lv ix
    split at h
    · rename_i hki
      simp only [Option.bind_eq_some_iff] at h
      obtain ⟨es, hes, es', hdel, hst⟩ := h
      cases hm with
      | map hp =>
        obtain ⟨p1, p2, r, rfl, p3⟩ := hp
        have hg := mapB_inv hes
        have := p3 es hg; subst this
        obtain ⟨en, clock, h1, h2⟩ := (hr.map lv ix es hg).ent
        have hk' : R (cx st ρ W lv) k kx := by
          unfold keyIs at hki
          split at hki
          · rw [getInt hk]; exact .int _ _
          · rw [getStr hk]; exact .str _
          · rw [getBool hk]; exact .bool _
          · simp at hki
        obtain ⟨rr, hfind⟩ := find_of_del hdel
        obtain ⟨f1, f2⟩ := findE_ok hd hki hk' 0 h2 hfind
        have hck := checkKey_ok (P := P) (W := W) hu hd en.isEmpty 9999 kx
        cases rr with
        | none =>
          obtain ⟨e4, _, e6⟩ := f2 rfl
          rw [e6] at hdel
          simp only [Option.some.injEq] at hdel; subst hdel
          refine ⟨{ W with heap := W.heap.setIfInBounds (ρ lv ix).b (.map en clock) }, ?_, write_map hr hg hst (by have := h2.1; simp at this; omega) ?_⟩
          · simp only [Builtin.delete_, List.getElem?_toArray, List.getElem?_cons_zero, List.getElem?_cons_succ, Sem.run_bind, run_und ht, Result.andThen_ok, getObj_map h1, hck, findKey_ok hu e4, setObj_map h1, Sem.run_pure]
          · intro i k1 v1 hkv
            have hi := lt_of_get hkv
            have hi' : i < en.size := by have := h2.1; simp at this; omega
            have hy : en.toList[i]? = some en[i] := by simp [hi']
            obtain ⟨q1, q2, q3⟩ := h2.2 i k1 v1 _ hkv hy
            exact ⟨q1, en[i], Array.getElem?_eq_getElem hi', q2, q3⟩
        | some w =>
          obtain ⟨idx, k0, x, e1, e2, e3, e4, _, e6⟩ := f1 w rfl
          rw [e6] at hdel
          simp only [Option.some.injEq] at hdel; subst hdel
          have hidx := lt_of_get e2
          have hidx' : idx < en.size := by simpa using hidx
          have hel : (en.eraseIdxIfInBounds idx).toList = en.toList.eraseIdx idx := by
            unfold Array.eraseIdxIfInBounds
            rw [dif_pos hidx']
            simp
          refine ⟨{ W with heap := W.heap.setIfInBounds (ρ lv ix).b (.map (en.eraseIdxIfInBounds idx) clock) }, ?_, write_map hr hg hst ?_ ?_⟩
          · simp only [Nat.zero_add] at e4
            simp only [Builtin.delete_, List.getElem?_toArray, List.getElem?_cons_zero, List.getElem?_cons_succ, Sem.run_bind, run_und ht, Result.andThen_ok, getObj_map h1, hck, findKey_ok hu e4, setObj_map h1, Sem.run_pure]
          · rw [← Array.length_toList, hel, List.length_eraseIdx, List.length_eraseIdx, h2.1]
          · intro i k1 v1 hkv
            rw [List.getElem?_eraseIdx] at hkv
            have hgo : ∀ j : Nat, es[j]? = some (k1, v1) → isKey k1 = true ∧ ∃ y : MapEntry, en.toList[j]? = some y ∧ R (cx st ρ W lv) k1 y.key ∧ R (cx st ρ W lv) v1 y.val := by
              intro j hj
              have hlt := lt_of_get hj
              have hlt' : j < en.toList.length := by rw [← h2.1]; exact hlt
              obtain ⟨q1, q2, q3⟩ := h2.2 j k1 v1 _ hj (List.getElem?_eq_getElem hlt')
              exact ⟨q1, _, List.getElem?_eq_getElem hlt', q2, q3⟩
            have : (en.eraseIdxIfInBounds idx)[i]? = if i < idx then en.toList[i]? else en.toList[i + 1]? := by
              rw [← Array.getElem?_toList, hel, List.getElem?_eraseIdx]
            split at hkv
            · rename_i hlt
              obtain ⟨q1, y, q2, q3⟩ := hgo i hkv
              exact ⟨q1, y, by rw [this, if_pos hlt]; exact q2, q3⟩
            · rename_i hlt
              obtain ⟨q1, y, q2, q3⟩ := hgo (i + 1) hkv
              exact ⟨q1, y, by rw [this, if_neg hlt]; exact q2, q3⟩
    · simp at h
  · simp at h

end
end Go.QAbs
