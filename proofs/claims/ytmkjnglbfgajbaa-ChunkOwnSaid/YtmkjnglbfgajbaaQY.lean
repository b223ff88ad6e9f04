/- '==' on structs and arrays of plain cells, and with nil. No condition. -/
import Derived.Test.YtmkjnglbfgajbaaQX
namespace Go.QAbs
set_option linter.unusedVariables false
set_option linter.unusedSimpArgs false
open Go.RowKit (Below)

section
variable {P : Program} {W : World}

theorem eqCells_append {xs ys : List AV} : ∀ {l m : List (Nat × Nat)} {b : Bool}, eqCells xs ys (l ++ m) = some b → (eqCells xs ys l = some false ∧ b = false) ∨ (eqCells xs ys l = some true ∧ eqCells xs ys m = some b)
  | [], m, b, h => .inr ⟨rfl, h⟩
  | p :: ps, m, b, h => by
    simp only [List.cons_append, eqCells, Option.bind_eq_some_iff] at h ⊢
    obtain ⟨x, hx, y, hy, c, hc, h⟩ := h
    cases c with
    | true =>
      simp only [if_true] at h
      rcases eqCells_append h with ⟨h1, h2⟩ | ⟨h1, h2⟩
      · exact .inl ⟨⟨x, hx, y, hy, true, hc, by simpa using h1⟩, h2⟩
      · exact .inr ⟨⟨x, hx, y, hy, true, hc, by simpa using h1⟩, h2⟩
    | false =>
      simp only [Bool.false_eq_true, if_false, Option.some.injEq] at h
      exact .inl ⟨⟨x, hx, y, hy, false, hc, by simp⟩, h.symm⟩

theorem eqCells_sub {xs ys : List AV} {o n : Nat} : ∀ {l : List (Nat × Nat)}, (∀ p ∈ l, p.1 < n) → eqCells ((xs.drop o).take n) ((ys.drop o).take n) l = eqCells xs ys (l.map fun p => (o + p.1, p.2))
  | [], _ => rfl
  | p :: ps, h => by
    have hp := h p (by simp)
    simp only [List.map_cons, eqCells, List.getElem?_take, if_pos hp, List.getElem?_drop]
    rw [eqCells_sub fun q hq => h q (by simp [hq])]

def shift (o : Nat) (l : List (Nat × Nat)) : List (Nat × Nat) := l.map fun p => (o + p.1, p.2)

theorem eqFields_ok {D : Nat} {d : Nat} {C : Cx} {xs ys : List AV} {X Y : Array Value} (hX : RL C xs X.toList) (hY : RL C ys Y.toList)
    (ih : ∀ (t : TypeId) (ks : List (Nat × Nat)), flat P d t = some ks → ∀ o b, eqCells xs ys (shift o ks) = some b → ∃ u w, (part t X o).run P W = .ok u W ∧ (part t Y o).run P W = .ok w W ∧ (Op.equalIn D t u w).run P W = .ok b W) :
    ∀ {fs : List Field} {l : List (List (Nat × Nat))}, (fs.mapM fun f => if f.name = "_" then none else (flat P d f.type).map fun l => l.map fun p => (f.offset + p.1, p.2)) = some l → ∀ {b : Bool}, eqCells xs ys l.flatten = some b →
      (Op.eqFields D X Y fs).run P W = .ok b W
  | [], l, h, b, hb => by
    simp at h; subst h
    simp only [List.flatten_nil, eqCells, Option.some.injEq] at hb; subst hb
    rfl
  | f :: fs, l, h, b, hb => by
    simp only [List.mapM_cons, Option.pure_def, Option.bind_eq_bind, Option.bind_eq_some_iff, Option.some.injEq] at h
    obtain ⟨k, hk, ls, hls, rfl⟩ := h
    split at hk
    · simp at hk
    · rename_i hn
      simp only [Option.map_eq_some_iff] at hk
      obtain ⟨k0, hk0, rfl⟩ := hk
      simp only [List.flatten_cons] at hb
      simp only [Op.eqFields]
      rw [if_pos hn]
      rcases eqCells_append hb with ⟨h1, rfl⟩ | ⟨h1, h2⟩
      · obtain ⟨u, w, e1, e2, e3⟩ := ih f.type k0 hk0 f.offset false h1
        simp [e1, e2, e3]
      · obtain ⟨u, w, e1, e2, e3⟩ := ih f.type k0 hk0 f.offset true h1
        have := eqFields_ok hX hY ih hls h2
        simp [e1, e2, e3, this]

theorem eqElems_ok {D : Nat} {t : TypeId} {w : Nat} {ks : List (Nat × Nat)} {xs ys : List AV} {X Y : Array Value}
    (ih : ∀ o b, eqCells xs ys (shift o ks) = some b → ∃ u v, (part t X o).run P W = .ok u W ∧ (part t Y o).run P W = .ok v W ∧ (Op.equalIn D t u v).run P W = .ok b W) :
    ∀ (l : List Nat) (b : Bool), eqCells xs ys (l.map fun i => ks.map fun p => (i * w + p.1, p.2)).flatten = some b →
      (forIn l ((none, ()) : Option Bool × Unit) (fun i _ => do
        let a ← part t X (i * w)
        let c ← part t Y (i * w)
        let r ← Op.equalIn D t a c
        if (!r) = true then pure (ForInStep.done (some false, ())) else pure (ForInStep.yield (none, ()))) : Sem (Option Bool × Unit)).run P W =
        .ok (if b = true then none else some false, ()) W
  | [], b, h => by
    simp only [List.map_nil, List.flatten_nil, eqCells, Option.some.injEq] at h; subst h
    simp
  | i :: l, b, h => by
    simp only [List.map_cons, List.flatten_cons] at h
    rcases eqCells_append h with ⟨h1, rfl⟩ | ⟨h1, h2⟩
    · obtain ⟨u, v, e1, e2, e3⟩ := ih (i * w) false h1
      simp [e1, e2, e3]
    · obtain ⟨u, v, e1, e2, e3⟩ := ih (i * w) true h1
      have := eqElems_ok ih l b h2
      simp only [List.forIn_cons, Sem.run_bind, e1, e2, e3, Result.andThen_ok, Bool.not_true, Bool.false_eq_true, if_false, Sem.run_pure]
      exact this

theorem eqCell_ok {t : TypeId} {kd D : Nat} {x y : AV} {b : Bool} (h : eqCell kd x y = some b) {C : Cx} {u v : Value} (hu : R C x u) (hv : R C y v)
    (h0 : kd = 0 → ∃ k, P.underlying t = some (.int k)) (h1 : kd = 1 → P.underlying t = some .string) (h2 : kd = 2 → P.underlying t = some .bool) :
    (Op.equalIn (D + 1) t u v).run P W = .ok b W := by
  unfold eqCell at h
  split at h
  · split at h
    · rename_i hk; subst hk
      simp only [Option.some.injEq] at h; subst h
      have := getInt hu; subst this
      have := getInt hv; subst this
      obtain ⟨k, hk⟩ := h0 rfl
      rw [run_equalIn_int _ _ _ _ k _ _ hk, beq_decI]
    · simp at h
  · simp only [Option.some.injEq] at h; subst h
    have := getStr hu; subst this
    have := getStr hv; subst this
    rw [run_equalIn_string _ _ _ _ _ (h1 rfl), bytes_toList, bytes_toList, beq_dec]
  · simp only [Option.some.injEq] at h; subst h
    have := getBool hu; subst this
    have := getBool hv; subst this
    exact run_equalIn_bool' _ _ _ _ _ (h2 rfl)
  · simp at h

def FlatOk (P : Program) (W : World) (C : Cx) (d : Nat) : Prop :=
  ∀ (t : TypeId) (ks : List (Nat × Nat)), flat P d t = some ks → ∀ (D : Nat), d ≤ D → ∀ {xs ys : List AV} {X Y : Array Value}, RL C xs X.toList → RL C ys Y.toList →
    ∀ o b, eqCells xs ys (shift o ks) = some b → ∃ u w, (part t X o).run P W = .ok u W ∧ (part t Y o).run P W = .ok w W ∧ (Op.equalIn D t u w).run P W = .ok b W

theorem flat_agg {C : Cx} {d : Nat} (ih : FlatOk P W C d) {t : TypeId} {ks : List (Nat × Nat)} (h : flat P (d + 1) t = some ks) (ha : aggT P t = some true) {D : Nat} (hD : d ≤ D) {xs ys : List AV} {X Y : Array Value}
    (hX : RL C xs X.toList) (hY : RL C ys Y.toList) {b : Bool} (hb : eqCells xs ys ks = some b) : (Op.equalIn (D + 1) t (.agg X) (.agg Y)).run P W = .ok b W ∧ ∃ n, sz P t = some n ∧ ∀ p ∈ ks, p.1 < n := by
  simp only [flat] at h
  split at h
  · rename_i k hk; simp [aggT, hk] at ha
  · rename_i hk; simp [aggT, hk] at ha
  · rename_i hk; simp [aggT, hk] at ha
  · rename_i fs hk
    split at h
    · simp at h
    · rename_i hst
      simp only [Option.bind_eq_some_iff] at h
      obtain ⟨n, hn, l, hl, h⟩ := h
      split at h
      · rename_i hall
        simp only [Option.some.injEq] at h; subst h
        have hlt : ∀ p ∈ l.flatten, p.1 < n := fun p hp => by have := List.all_eq_true.1 hall p hp; simpa using this
        have hfo : P.fieldsOf t = fs := by simp [Program.fieldsOf, hk]
        rw [run_equalIn_struct _ _ _ _ _ (by rw [hfo]; exact hk) (by simpa using hst), hfo]
        exact ⟨eqFields_ok hX hY (fun t ks hf o b hb => ih t ks hf D hD hX hY o b hb) hl hb, n, hn, hlt⟩
      · simp at h
  · rename_i m el hk
    simp only [Option.bind_eq_some_iff] at h
    obtain ⟨n, hn, w, hw, l, hl, h⟩ := h
    split at h
    · rename_i hall
      simp only [Option.some.injEq] at h; subst h
      have hlt : ∀ p ∈ ((List.range m).map fun i => l.map fun p => (i * w + p.1, p.2)).flatten, p.1 < n := fun p hp => by have := List.all_eq_true.1 hall p hp; simpa using this
      have := eqElems_ok (P := P) (W := W) (D := D) (t := el) (w := w) (ks := l) (xs := xs) (ys := ys) (X := X) (Y := Y)
        (fun o b hb => ih el l hl D hD hX hY o b hb) (List.range m) b hb
      refine ⟨?_, n, hn, hlt⟩
      simp only [Op.equalIn, Sem.run_bind, run_und hk, Result.andThen_ok, run_sz hw, Std.Legacy.Range.forIn_eq_forIn_range', Std.Legacy.Range.size, Nat.sub_zero, Nat.add_one_sub_one, Nat.div_one]
      rw [← List.range_eq_range']
      rw [this]
      cases b <;> simp
    · simp at h
  · simp at h

theorem flat_ok {C : Cx} : ∀ (d : Nat), FlatOk P W C d
  | 0 => fun _ _ h => by simp [flat] at h
  | d + 1 => by
    intro t ks h D hD xs ys X Y hX hY o b hb
    obtain ⟨D', rfl⟩ : ∃ D', D = D' + 1 := ⟨D - 1, by omega⟩
    have basic : ∀ kd, ks = [(0, kd)] → aggT P t = some false → (kd = 0 → ∃ k, P.underlying t = some (.int k)) → (kd = 1 → P.underlying t = some .string) → (kd = 2 → P.underlying t = some .bool) →
        ∃ u w, (part t X o).run P W = .ok u W ∧ (part t Y o).run P W = .ok w W ∧ (Op.equalIn (D' + 1) t u w).run P W = .ok b W := by
      intro kd hk ha h0 h1 h2
      subst hk
      simp only [shift, List.map_cons, List.map_nil, Nat.add_zero, eqCells, Option.bind_eq_some_iff] at hb
      obtain ⟨x, hx, y, hy, c, hc, hb⟩ := hb
      have hbc : b = c := by cases c <;> simp at hb <;> first | exact hb | exact hb.symm
      subst hbc
      obtain ⟨u, hu1, hu2⟩ := hX.get hx
      obtain ⟨v, hv1, hv2⟩ := hY.get hy
      exact ⟨u, v, part_one ha (by simpa using hu1), part_one ha (by simpa using hv1), eqCell_ok hc hu2 hv2 h0 h1 h2⟩
    have agg : aggT P t = some true → ∃ u w, (part t X o).run P W = .ok u W ∧ (part t Y o).run P W = .ok w W ∧ (Op.equalIn (D' + 1) t u w).run P W = .ok b W := by
      intro ha
      have hex : ∃ n, sz P t = some n ∧ ∀ p ∈ ks, p.1 < n := by
        have hh := h
        simp only [flat] at hh
        split at hh
        · rename_i k hk; simp [aggT, hk] at ha
        · rename_i hk; simp [aggT, hk] at ha
        · rename_i hk; simp [aggT, hk] at ha
        · split at hh
          · simp at hh
          · simp only [Option.bind_eq_some_iff] at hh
            obtain ⟨n, hn, l, hl, hh⟩ := hh
            split at hh
            · rename_i hall
              simp only [Option.some.injEq] at hh; subst hh
              exact ⟨n, hn, fun p hp => by have := List.all_eq_true.1 hall p hp; simpa using this⟩
            · simp at hh
        · simp only [Option.bind_eq_some_iff] at hh
          obtain ⟨n, hn, w, hw, l, hl, hh⟩ := hh
          split at hh
          · rename_i hall
            simp only [Option.some.injEq] at hh; subst hh
            exact ⟨n, hn, fun p hp => by have := List.all_eq_true.1 hall p hp; simpa using this⟩
          · simp at hh
        · simp at hh
      obtain ⟨n, hn, hlt⟩ := hex
      have hX' : RL C ((xs.drop o).take n) (X.extract o (o + n)).toList := by rw [extract_eq]; exact (hX.drop o).take n
      have hY' : RL C ((ys.drop o).take n) (Y.extract o (o + n)).toList := by rw [extract_eq]; exact (hY.drop o).take n
      exact ⟨_, _, part_agg ha hn, part_agg ha hn, (flat_agg (flat_ok d) h ha (by omega) hX' hY' (by rw [eqCells_sub hlt]; exact hb)).1⟩
    have hh := h
    simp only [flat] at hh
    split at hh
    · rename_i k hk
      simp only [Option.some.injEq] at hh
      exact basic 0 hh.symm (by simp [aggT, hk]) (fun _ => ⟨k, hk⟩) (by simp) (by simp)
    · rename_i hk
      simp only [Option.some.injEq] at hh
      exact basic 1 hh.symm (by simp [aggT, hk]) (by simp) (fun _ => hk) (by simp)
    · rename_i hk
      simp only [Option.some.injEq] at hh
      exact basic 2 hh.symm (by simp [aggT, hk]) (by simp) (by simp) (fun _ => hk)
    · rename_i fs hk; exact agg (by simp [aggT, hk])
    · rename_i m el hk; exact agg (by simp [aggT, hk])
    · simp at hh

theorem eqNil_ok {st : St} {ρ : Rho} {m k : Nat} {x y : AV} {b : Bool} (h : eqNil k x y = some b) {t : TypeId} {u v : Value} (hu : R (cx st ρ W m) x u) (hv : R (cx st ρ W m) y v)
    (h3 : k = 3 → ∃ el, P.underlying t = some (.pointer el)) (h4 : k = 4 → ∃ a b, P.underlying t = some (.map a b)) (h5 : k = 5 → ∃ a b c, P.underlying t = some (.func a b c)) (h6 : k = 6 → P.underlying t = some .bool) (D : Nat) :
    (Op.equalIn (D + 1) t u v).run P W = .ok b W ∧ ¬ (u = .nilIface ∧ v = .nilIface) ∧ (∀ xs ys, u = .agg xs → v = .agg ys → False) ∧ binOp .eql t u v = (do pure (.bool (← Op.equal t u v))) ∧ binOp .neq t u v = (do pure (.bool (!(← Op.equal t u v)))) := by
  unfold eqNil at h
  split at h <;> simp only [Option.some.injEq, reduceCtorEq] at h <;> subst h
  · obtain ⟨el, hk⟩ := h3 rfl
    cases hu; cases hv
    exact ⟨by simp [Op.equalIn, run_und hk], by simp, by simp, rfl, rfl⟩
  · obtain ⟨el, hk⟩ := h3 rfl
    cases hu
    cases hv with
    | ptr hp => obtain ⟨a, rfl⟩ := (cx_ok _ _ _ _).ptr hp; exact ⟨by simp [Op.equalIn, run_und hk], by simp, by simp, rfl, rfl⟩
  · obtain ⟨el, hk⟩ := h3 rfl
    cases hu
    cases hv with
    | lptr => exact ⟨by simp [Op.equalIn, run_und hk], by simp, by simp, rfl, rfl⟩
  · obtain ⟨el, hk⟩ := h3 rfl
    cases hv
    cases hu with
    | ptr hp => obtain ⟨a, rfl⟩ := (cx_ok _ _ _ _).ptr hp; exact ⟨by simp [Op.equalIn, run_und hk], by simp, by simp, rfl, rfl⟩
  · obtain ⟨el, hk⟩ := h3 rfl
    cases hv
    cases hu with
    | lptr => exact ⟨by simp [Op.equalIn, run_und hk], by simp, by simp, rfl, rfl⟩
  · obtain ⟨a, b, hk⟩ := h4 rfl
    cases hu; cases hv
    exact ⟨by simp [Op.equalIn, run_und hk], by simp, by simp, rfl, rfl⟩
  · obtain ⟨a, b, hk⟩ := h4 rfl
    cases hu
    cases hv with
    | map hp => obtain ⟨a, rfl⟩ := (cx_ok _ _ _ _).map hp; exact ⟨by simp [Op.equalIn, run_und hk], by simp, by simp, rfl, rfl⟩
  · obtain ⟨a, b, hk⟩ := h4 rfl
    cases hv
    cases hu with
    | map hp => obtain ⟨a, rfl⟩ := (cx_ok _ _ _ _).map hp; exact ⟨by simp [Op.equalIn, run_und hk], by simp, by simp, rfl, rfl⟩
  · obtain ⟨a, b, c, hk⟩ := h5 rfl
    cases hu; cases hv
    exact ⟨by simp [Op.equalIn, run_und hk], by simp, by simp, rfl, rfl⟩
  · obtain ⟨a, b, c, hk⟩ := h5 rfl
    cases hu
    cases hv with
    | func => exact ⟨by simp [Op.equalIn, run_und hk], by simp, by simp, rfl, rfl⟩
  · obtain ⟨a, b, c, hk⟩ := h5 rfl
    cases hv
    cases hu with
    | func => exact ⟨by simp [Op.equalIn, run_und hk], by simp, by simp, rfl, rfl⟩
  · have hk := h6 rfl
    have := getBool hu; subst this
    have := getBool hv; subst this
    exact ⟨by simp only [Op.equalIn, Sem.run_bind, run_und hk, Result.andThen_ok, Sem.run_pure], by simp, by simp, rfl, rfl⟩

theorem eqV_ok {st : St} {ρ : Rho} {m k : Nat} {ks : List (Nat × Nat)} {x y : AV} {b : Bool} (h : eqV ks k x y = some b) {t : TypeId} {u v : Value} (hu : R (cx st ρ W m) x u) (hv : R (cx st ρ W m) y v) (ox oy : Operand)
    (h0 : k = 0 → flat P 6 t = some ks ∧ (∃ n, sz P t = some n) ∧ P.eqGuardType P.depth t = false ∧ aggT P t = some true)
    (h3 : k = 3 → ∃ el, P.underlying t = some (.pointer el)) (h4 : k = 4 → ∃ a b, P.underlying t = some (.map a b)) (h5 : k = 5 → ∃ a b c, P.underlying t = some (.func a b c)) (h6 : k = 6 → P.underlying t = some .bool) :
    (do eqGuard .eql t ox oy u v; binOp .eql t u v : Sem Value).run P W = .ok (.bool b) W ∧ (do eqGuard .neq t ox oy u v; binOp .neq t u v : Sem Value).run P W = .ok (.bool (!b)) W := by
  unfold eqV at h
  split at h
  · obtain ⟨hf, ⟨n, hn⟩, hg, ha⟩ := h0 rfl
    cases hu with
    | @agg _ _ X hl hi =>
      cases hv with
      | @agg _ _ Y hl' hi' =>
        have hX : RL (cx st ρ W m) _ X.toArray.toList := ⟨hl, hi⟩
        have hY : RL (cx st ρ W m) _ Y.toArray.toList := ⟨hl', hi'⟩
        have hgr : ∀ op, (eqGuard op t ox oy (.agg X.toArray) (.agg Y.toArray)).run P W = .ok () W := fun op => guard_ok (by simp) (fun _ _ _ _ => hg)
        have he : (Op.equal t (.agg X.toArray) (.agg Y.toArray)).run P W = .ok b W := (flat_agg (P := P) (W := W) (D := 9999) (flat_ok 5) hf ha (by omega) hX hY h).1
        constructor
        · have e : binOp .eql t (.agg X.toArray) (.agg Y.toArray) = (do pure (.bool (← Op.equal t (.agg X.toArray) (.agg Y.toArray)))) := rfl
          simp only [Sem.run_bind, hgr, Result.andThen_ok, e, he, Sem.run_pure]
        · have e : binOp .neq t (.agg X.toArray) (.agg Y.toArray) = (do pure (.bool (!(← Op.equal t (.agg X.toArray) (.agg Y.toArray))))) := rfl
          simp only [Sem.run_bind, hgr, Result.andThen_ok, e, he, Sem.run_pure]
  · rename_i k'
    obtain ⟨q1, q2, q3, q4, q5⟩ := eqNil_ok (P := P) h hu hv h3 h4 h5 h6 9999
    have hgr : ∀ op, (eqGuard op t ox oy u v).run P W = .ok () W := fun op => guard_ok q2 (fun xs ys a b => (q3 xs ys a b).elim)
    have he : (Op.equal t u v).run P W = .ok b W := q1
    constructor
    · simp only [Sem.run_bind, hgr, Result.andThen_ok, q4, he, Sem.run_pure]
    · simp only [Sem.run_bind, hgr, Result.andThen_ok, q5, he, Sem.run_pure]
  · simp at h

end
end Go.QAbs
