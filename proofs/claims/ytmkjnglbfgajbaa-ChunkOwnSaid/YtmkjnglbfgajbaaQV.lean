/- Append. No condition. -/
import Derived.Test.YtmkjnglbfgajbaaQU
namespace Go.QAbs
set_option linter.unusedVariables false
set_option linter.unusedSimpArgs false
open Go.RowKit (Below)

section
variable {P : Program} {W0 : World} {B0 : Nat} {st st' : St} {ρ : Rho} {W : World} {e : Env} {a : Act}

theorem storeCells_nil (b : Addr) : (storeCells b []).run P W = .ok () W := rfl

/-- append, where there is room. -/
theorem append_in {t u el ty : TypeId} {i : TypeInfo} {base : Option Addr} {n c m : Nat} {x : Value} {xs : List Value} (ht : P.underlying t = some (.slice el))
    (hu : (∃ el', P.underlying u = some (.slice el')) ∨ P.underlying u = some .string) (hi : P.info? el = some i) (hlen : (Builtin.lenOf x).run P W = .ok m W)
    (hfc : (Builtin.firstCells i.size m x).run P W = .ok (flatC xs).toArray W) (hroom : n + m ≤ c) {W' : World}
    (hst : ∀ b, base = some b → (storeCells (b.add (n * i.size)) (flatC xs)).run P W = .ok () W') (hnone : base = none → W' = W) :
    (Builtin.append_ #[t, u] ty #[.slice base n c, x]).run P W = .ok (.slice base (n + m) c) W' := by
  have hs : sz P el = some i.size := by simp [sz, hi]
  have hz : (do pure ((← underlying u) matches .int _) : Sem Bool).run P W = .ok false W := by
    rcases hu with ⟨el', hu⟩ | hu <;> simp [run_und hu]
  cases base with
  | none =>
    rw [hnone rfl]
    simp only [Builtin.append_, List.getElem?_toArray, List.getElem?_cons_zero, List.getElem?_cons_succ, Sem.run_bind, run_und ht, Result.andThen_ok, run_sz hs]
    rcases hu with ⟨el', hu⟩ | hu <;>
      simp [run_und hu, hlen, hfc, hroom]
  | some b =>
    have := hst b rfl
    simp only [Builtin.append_, List.getElem?_toArray, List.getElem?_cons_zero, List.getElem?_cons_succ, Sem.run_bind, run_und ht, Result.andThen_ok, run_sz hs]
    rcases hu with ⟨el', hu⟩ | hu <;>
      simp [run_und hu, hlen, hfc, hroom, this]

/-- append, where a new array is made. -/
theorem append_new {t u el ty : TypeId} {i : TypeInfo} {base : Option Addr} {n c m : Nat} {x zv : Value} {ys xs : List Value} (ht : P.underlying t = some (.slice el))
    (hu : (∃ el', P.underlying u = some (.slice el')) ∨ P.underlying u = some .string) (hi : P.info? el = some i) (hlen : (Builtin.lenOf x).run P W = .ok m W)
    (hold : (Builtin.firstCells i.size n (.slice base n c)).run P W.drew = .ok (flatC ys).toArray W.drew)
    (hfc : (Builtin.firstCells i.size m x).run P W.drew = .ok (flatC xs).toArray W.drew) (hroom : ¬ n + m ≤ c) (hz : i.zero = some zv) (hby : i.bytes ≤ 4096) (hsm : n + m < 4294967296) :
    ∃ C, n + m ≤ C ∧ (Builtin.append_ #[t, u] ty #[.slice base n c, x]).run P W =
      .ok (.slice (some ⟨W.heap.size, 0, none⟩) (n + m) C) (W.drew.alloc (.cells ((flatC ys).toArray ++ (flatC xs).toArray ++ Builtin.zeroCells zv.cells (C - (n + m))) el)) := by
  have hs : sz P el = some i.size := by simp [sz, hi]
  have hzr : ∀ W : World, (zeroValue el).run P W = .ok zv W := by intro W; simp [zeroValue, typeInfo, hi, hz]
  let q := Question.appendCap (n + m) c el
  refine ⟨q.cut (W.tape W.drawn q), by simp [q, Question.cut], ?_⟩
  have hforced : q.forced = false := rfl
  have hbig : ¬ (Builtin.nextslicecap (n + m) c * i.bytes > 2 ^ 48) := by
    have h1 := next_le (n := n + m) (c := c) (by omega)
    have h2 := mulLit (b := i.bytes) (n := Builtin.nextslicecap (n + m) c) hby (by omega)
    have : (2 ^ 48 : Nat) = 281474976710656 := by decide
    omega
  have hmax : ¬ (((n + m : Nat) : Int) > IntKind.i64.max ∧ (False ∨ i.bytes = 0)) := by
    have : IntKind.i64.max = 9223372036854775807 := by decide
    rw [this]; omega
  have hchoose : (choose q).run P W = .ok (q.cut (W.tape W.drawn q)) W.drew := by
    rw [run_choose, hforced]; rfl
  have hmax2 : ¬ ((((n : Int) + m)) > IntKind.i64.max ∧ i.bytes = 0) := by
    have : IntKind.i64.max = 9223372036854775807 := by decide
    rw [this]; omega
  simp only [Builtin.append_, List.getElem?_toArray, List.getElem?_cons_zero, List.getElem?_cons_succ, Sem.run_bind, run_und ht, Result.andThen_ok, run_sz hs]
  have hch2 : (choose (.appendCap (n + m) c el)).run P W = .ok (q.cut (W.tape W.drawn q)) W.drew := hchoose
  rcases hu with ⟨el', hu⟩ | hu <;>
    (simp only [run_und hu, Sem.run_pure, Result.andThen_ok, Bool.false_eq_true, if_false, hlen, Sem.run_bind, if_neg hroom, run_info hi, false_or, Bool.not_false, if_true]
     rw [if_neg (by simpa using hmax2)]
     simp only [Sem.run_bind, run_info hi, Result.andThen_ok]
     rw [if_neg hbig]
     simp only [Sem.run_bind, hch2, Result.andThen_ok, run_info hi, run_askRoom, hold, hfc, hzr, newRow, run_newObj, Sem.run_pure]
     rfl)

theorem Rel.drewE (h : Rel W0 B0 st ρ W) : Goes W0 B0 st ρ W st ρ W.drew := Goes.drew h

theorem zeroCells_size (z : Array Value) (n : Nat) : (Builtin.zeroCells z n).size = n * z.size := by simp [Builtin.zeroCells]

theorem appendV_ok (hr : Rel W0 B0 st ρ W) {w bytes : Nat} {ys : List AV} {s xv v : AV} {us ux : Value} (hel : elems st xv = some ys) (h : appendV st w bytes ys s = some (v, st')) (hs : R (cx st ρ W st.A.length) s us)
    (hx : R (cx st ρ W st.A.length) xv ux) {t u el ty : TypeId} {i : TypeInfo} (ht : P.underlying t = some (.slice el)) (hu : (∃ el', P.underlying u = some (.slice el')) ∨ P.underlying u = some .string)
    (hi : P.info? el = some i) (hsz : i.size = w) (hby : i.bytes = bytes) (hzz : i.zero.map (·.cells.size) = some i.size) :
    ∃ x ρ' W', (Builtin.append_ #[t, u] ty #[us, ux]).run P W = .ok x W' ∧ Goes W0 B0 st ρ W st' ρ' W' ∧ R (cx st' ρ' W' st'.A.length) v x := by
  subst hsz; subst hby
  obtain ⟨zv, hz, hzs⟩ : ∃ zv, i.zero = some zv ∧ zv.cells.size = i.size := by
    cases hzz' : i.zero with
    | none => rw [hzz'] at hzz; simp at hzz
    | some zv => rw [hzz'] at hzz; simp only [Option.map_some, Option.some.injEq] at hzz; exact ⟨zv, rfl, hzz⟩
  unfold appendV at h
  split at h
  · -- a nil slice
    split at h
    · rename_i hc
      obtain ⟨c1, c2, c3⟩ := hc
      simp only [Option.bind_eq_some_iff, newRefK, Option.some.injEq, Prod.mk.injEq] at h
      obtain ⟨⟨k, st1⟩, hn1, rfl, rfl⟩ := h
      obtain ⟨xs, e1, e2, e3, e4⟩ := elems_ok (P := P) hr hel hx c3
      cases hs with
      | nils base =>
        rcases Nat.eq_zero_or_pos ys.length with h0 | h0
        · have hys : ys = [] := List.length_eq_zero_iff.1 h0
          subst hys
          have := e3.nil_inv; subst this
          obtain ⟨g, hg⟩ := new_nil hr (.of_new hn1) base
          have hlen := g.ev.len
          refine ⟨_, _, _, append_in (base := base) (n := 0) (c := 0) (m := 0) (xs := []) ht hu hi e1 (e2 W fun _ => rfl) (by omega) (W' := W) (fun b hb => rfl) (fun _ => rfl), g, .ref (hg _ (by show st.A.length ≤ st1.A.length; omega))⟩
        · have grd := Goes.drew hr
          obtain ⟨xs, e1', e2', e3', e4⟩ := elems_ok (P := P) grd.rel hel (hx.mono (grd.ev.le _ (Nat.le_refl _))) c3
          obtain ⟨C, hC, hrun⟩ := append_new (W := W) (base := base) (n := 0) (c := 0) (m := ys.length) (ys := []) (xs := xs) (ty := ty) ht hu hi e1 (firstCells_zero ⟨base, 0, rfl⟩) (e2' W.drew fun _ => rfl) (by omega) hz c2 (by omega)
          simp only [Nat.zero_add] at hrun hC
          have hfl : (flatC xs).length = ys.length * i.size := by rw [flatC_len e4, ← e3'.1]
          have hcs : C * i.size ≤ ((flatC ([] : List Value)).toArray ++ (flatC xs).toArray ++ Builtin.zeroCells zv.cells (C - ys.length)).size := by
            simp only [flatC, List.flatMap_nil, List.size_toArray, Array.size_append, zeroCells_size, hzs, List.length_nil, Nat.zero_add]
            have : (List.flatMap (fun x => x.cells.toList) xs).length = ys.length * i.size := hfl
            rw [this, ← Nat.add_mul]
            exact Nat.mul_le_mul_right _ (by omega)
          have hla := laid_flat e4 (Builtin.zeroCells zv.cells (C - ys.length))
          have heq : ((flatC ([] : List Value)).toArray ++ (flatC xs).toArray ++ Builtin.zeroCells zv.cells (C - ys.length)) = (flatC xs).toArray ++ Builtin.zeroCells zv.cells (C - ys.length) := by
            simp [flatC]
          rw [heq] at hrun hcs
          obtain ⟨g, hg⟩ := new_arr (elem := el) grd.rel (.of_new hn1) e3' e4 hC hcs hla.2
          have hlen := g.ev.len
          exact ⟨_, _, _, hrun, grd.trans g, .ref (hg _ (by show st.A.length ≤ st1.A.length; omega)).1⟩
    · simp at h
  · -- nothing is appended to an immutable slice
    split at h
    · rename_i hemp
      simp only [Option.some.injEq, Prod.mk.injEq] at h
      obtain ⟨rfl, rfl⟩ := h
      have hys : ys = [] := by simpa using hemp
      subst hys
      obtain ⟨xs, e1, e2, e3, e4⟩ := elems_ok (P := P) (w := i.size) hr hel hx rfl
      have := e3.nil_inv; subst this
      obtain ⟨base, c, rfl, hc, _⟩ := lit_inv hs
      refine ⟨_, _, _, append_in (base := base) (c := c) (m := 0) (xs := []) ht hu hi e1 (e2 W fun _ => rfl) (by omega) (W' := W) (fun b hb => rfl) (fun _ => rfl), .refl hr, ?_⟩
      exact hs
    · simp at h
  · -- an owned slice
    rename_i lv ix ver s n
    split at h
    · rename_i hsw
      simp only [Option.bind_eq_some_iff] at h
      obtain ⟨⟨ys', st1⟩, hm, hk⟩ := h
      cases hs with
      | ref hp =>
        obtain ⟨xs, e1, e2, e3, e4⟩ := elems_ok (P := P) hr hel hx hsw
        obtain ⟨p1, p2, p3, base, c, rfl, p4⟩ := hp
        obtain ⟨g1, r2⟩ := mapSt_ok (fun st v x v' st' => sealV_ok deep (lv + 1) st v x v' st') hr (by omega) e3 hm
        have hp1 := (g1.ev.le st.A.length (Nat.le_refl _)).ref lv ix ver s n _ ⟨p1, p2, p3, base, c, rfl, p4⟩
        obtain ⟨_, _, _, base', c', hbc, k4⟩ := hp1
        simp only [Value.slice.injEq, true_and] at hbc
        obtain ⟨rfl, rfl⟩ := hbc
        have r2' : RL (cx st1 ρ W lv) ys' xs := r2
        have hyl : ys'.length = ys.length := by rw [r2'.1, e3.1]
        have hone : ∀ z ∈ flatC xs, z.oneCell' = true := by
          intro z hz
          simp only [flatC, List.mem_flatMap] at hz
          obtain ⟨y, hy, hzy⟩ := hz
          obtain ⟨q, hq⟩ := List.getElem?_of_mem hy
          have hlt := lt_of_get hq
          rw [← e3.1] at hlt
          exact ((e3.2 q _ y (List.getElem?_eq_getElem hlt) hq).wide (cx_ok _ _ _ _) (sameW_mem hsw (List.getElem_mem hlt))).2 z hzy
        unfold appK appB at hk
        split at hk
        · rename_i w' ver' es hg
          split at hk
          · rename_i hc
            obtain ⟨rfl, rfl, hsn, hsmall, hb4⟩ := hc
            simp only [Option.bind_eq_some_iff, Option.some.injEq, Prod.mk.injEq] at hk
            obtain ⟨st2, hput, rfl, rfl⟩ := hk
            obtain ⟨q1, q2, q3⟩ := k4 _ es hg
            have hsmall : n + ys.length < 4294967296 := by rw [← hyl]; exact hsmall
            have aok := g1.rel.arr lv ix _ ver es hg
            have hfl : (flatC xs).length = ys.length * i.size := by rw [flatC_len e4, ← e3.1]
            have sh := Sh.of_put hput
            by_cases hroom : n + ys.length ≤ c
            · have g2 := app_in g1.rel hg hsn hput r2' e4 (by omega)
              refine ⟨_, _, _, append_in (base := base) (c := c) (m := ys.length) (xs := xs) (W' := W.setCells (ρ lv ix).b ((ρ lv ix).o + (s + n) * i.size) (flatC xs)) ht hu hi e1 (e2 W fun _ => rfl) hroom ?_ ?_, g1.trans g2, ?_⟩
              · intro b hb
                cases hfx : flatC xs with
                | nil => rfl
                | cons z zs =>
                  rw [← hfx]
                  have hpos : 0 < ys.length * i.size := by rw [← hfl, hfx]; simp
                  have hyp : 0 < ys.length := by
                    rcases Nat.eq_zero_or_pos ys.length with h0 | h0
                    · rw [h0] at hpos; simp at hpos
                    · exact h0
                  have hbase := q3 (by omega)
                  rw [hb] at hbase
                  simp only [Option.some.injEq] at hbase; subst hbase
                  rw [add_mk]
                  have hmul : (s + n) * i.size + ys.length * i.size ≤ (ρ lv ix).c * i.size := by rw [← Nat.add_mul]; exact Nat.mul_le_mul_right _ (by omega)
                  have hoff : (ρ lv ix).o + s * i.size + n * i.size = (ρ lv ix).o + (s + n) * i.size := by rw [Nat.add_mul]; omega
                  rw [hoff]
                  have := run_storeCells_cells (P := P) (ρ lv ix).b ((ρ lv ix).o + (s + n) * i.size) (flatC xs) 0 W (fun j hj => by
                    have := (aok.mem ((s + n) * i.size + j) (by omega)).2.1
                    rwa [show (ρ lv ix).o + ((s + n) * i.size + j) = (ρ lv ix).o + (s + n) * i.size + 0 + j by omega] at this) (fun j hj => by
                    have := (aok.mem ((s + n) * i.size + j) (by omega)).2.2
                    rwa [show (ρ lv ix).o + ((s + n) * i.size + j) = (ρ lv ix).o + (s + n) * i.size + 0 + j by omega] at this) hone
                  simpa using this
              · intro hb
                have hsc : ¬ s < (ρ lv ix).c := fun h => by have := q3 h; rw [hb] at this; simp at this
                have hyz : ys.length = 0 := by omega
                have : flatC xs = [] := List.length_eq_zero_iff.1 (by rw [hfl, hyz]; simp)
                rw [this]; rfl
              · have hlen2 : st2.A.length = st.A.length := (g1.trans g2).ev.len
                refine .ref ⟨by omega, by rw [sh.get0]; rfl, ?_, base, c, by rw [hyl], ?_⟩
                · intro w2 u2 es2 hg2
                  rw [sh.get0] at hg2; simp only [Option.some.injEq, Blk.arr.injEq] at hg2; omega
                · intro w2 es2 hg2
                  rw [sh.get0] at hg2; simp only [Option.some.injEq, Blk.arr.injEq] at hg2
                  obtain ⟨rfl, _, rfl⟩ := hg2
                  rw [upd_same]
                  refine ⟨by simp; omega, by simp only; omega, fun hpos => ?_⟩
                  simp only at hpos
                  rw [q3 (by omega)]; simp
            · have grd := Goes.drew g1.rel
              have hold : (Builtin.firstCells i.size n (.slice base n c)).run P W.drew = .ok (flatC ((aok.vals.choose.drop s).take n)).toArray W.drew := by
                have hv := aok.vals.choose_spec
                rcases Nat.eq_zero_or_pos n with h0 | h0
                · subst h0
                  simp only [List.take_zero, flatC, List.flatMap_nil]
                  exact firstCells_zero ⟨base, c, rfl⟩
                · have hal := aok.len
                  have hb := q3 (by omega)
                  subst hb
                  refine firstCells_list (bb := (ρ lv ix).b) (oo := (ρ lv ix).o + s * i.size) (by have := hv.1.1; simp only [List.length_take, List.length_drop]; omega) ?_ (fun _ => rfl) ?_
                  · intro y hy
                    obtain ⟨q, hq⟩ := List.getElem?_of_mem hy
                    rw [List.getElem?_take] at hq
                    split at hq
                    · rw [List.getElem?_drop] at hq; exact (hv.2 _ _ hq).1
                    · simp at hq
                  · intro q y hq
                    rw [List.getElem?_take] at hq
                    split at hq
                    · rw [List.getElem?_drop] at hq
                      rw [show (ρ lv ix).o + s * i.size + q * i.size = (ρ lv ix).o + (s + q) * i.size by rw [Nat.add_mul]; omega]
                      exact (hv.2 _ _ hq).2
                    · simp at hq
              have hv := aok.vals.choose_spec
              generalize aok.vals.choose = xs0 at hold hv
              have hfc' : (Builtin.firstCells i.size ys.length ux).run P W.drew = .ok (flatC xs).toArray W.drew := by
                exact e2 W.drew (fun _ => rfl)
              obtain ⟨C, hC, hrun⟩ := append_new (W := W) (base := base) (ys := (xs0.drop s).take n) (xs := xs) (ty := ty) ht hu hi e1 hold hfc' hroom hz hb4 (by omega)
              have hsz0 : ∀ x ∈ (xs0.drop s).take n ++ xs, x.cells.size = i.size := by
                intro y hy
                rcases List.mem_append.1 hy with hy | hy
                · obtain ⟨q, hq⟩ := List.getElem?_of_mem hy
                  rw [List.getElem?_take] at hq
                  split at hq
                  · rw [List.getElem?_drop] at hq; exact (hv.2 _ _ hq).1
                  · simp at hq
                · exact e4 y hy
              have hrl : RL (cx st1 ρ W.drew lv) ((es.drop s).take n ++ ys') ((xs0.drop s).take n ++ xs) := ((hv.1.drop s).take n).append r2'
              have hll : ((es.drop s).take n ++ ys').length = n + ys.length := by simp only [List.length_append, List.length_take, List.length_drop]; omega
              have heq : (flatC ((xs0.drop s).take n)).toArray ++ (flatC xs).toArray ++ Builtin.zeroCells zv.cells (C - (n + ys.length)) = (flatC ((xs0.drop s).take n ++ xs)).toArray ++ Builtin.zeroCells zv.cells (C - (n + ys.length)) := by
                rw [flatC_append]; simp
              rw [heq] at hrun
              have hcs : C * i.size ≤ ((flatC ((xs0.drop s).take n ++ xs)).toArray ++ Builtin.zeroCells zv.cells (C - (n + ys.length))).size := by
                rw [Array.size_append, zeroCells_size, hzs, List.size_toArray, flatC_len hsz0, ← hrl.1, hll, ← Nat.add_mul]
                exact Nat.mul_le_mul_right _ (by omega)
              have g2 := app_new (elem := el) grd.rel hg hput hrl hsz0 (by omega) hcs (laid_flat hsz0 _).2
              refine ⟨_, _, _, hrun, (g1.trans grd).trans g2, ?_⟩
              have hlen2 : st2.A.length = st.A.length := ((g1.trans grd).trans g2).ev.len
              refine .ref ⟨by omega, by rw [sh.get0]; rfl, ?_, _, _, by rw [hyl], ?_⟩
              · intro w2 u2 es2 hg2
                rw [sh.get0] at hg2; simp only [Option.some.injEq, Blk.arr.injEq] at hg2; omega
              · intro w2 es2 hg2
                rw [sh.get0] at hg2; simp only [Option.some.injEq, Blk.arr.injEq] at hg2
                obtain ⟨rfl, _, rfl⟩ := hg2
                rw [upd_same]
                refine ⟨by rw [hll]; omega, by simp, fun hpos => by simp⟩
          · simp at hk
        · simp at hk
    · simp at h
  · simp at h

end
end Go.QAbs
