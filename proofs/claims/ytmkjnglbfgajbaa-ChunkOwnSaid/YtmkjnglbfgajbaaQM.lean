/- The operations on values: parts, bounds, slices, addresses, conversions. No condition. -/
import Derived.Test.YtmkjnglbfgajbaaQL
namespace Go.QAbs
set_option linter.unusedVariables false
set_option linter.unusedSimpArgs false
open Go.RowKit (Below)

section
variable {P : Program} {W0 : World} {B0 : Nat} {st st' : St} {ρ : Rho} {W : World} {e : Env} {a : Act}

theorem pickV_ok {C : Cx} {x y c v : AV} (h : pickV x y c = some v) {u w b : Value} (hx : R C x u) (hy : R C y w) (hc : R C c b) :
    ∃ t, b = .bool t ∧ R C v (if t = true then u else w) := by
  unfold pickV at h
  split at h
  · simp only [Option.some.injEq] at h; subst h
    have := getBool hc; subst this
    refine ⟨_, rfl, ?_⟩
    split <;> assumption
  · simp at h

theorem nilckV_ok {C : Cx} (ok : C.Ok) {x v : AV} (h : nilckV x = some v) {u : Value} (hx : R C x u) (ρ' : Operand → Value) (o : Oper) (q : Operand) (ho : o.op = .nilCheck q) (hq : ρ' q = u) :
    (execOp ρ' o).run P W = .ok (.value u) W ∧ R C v u := by
  unfold nilckV at h
  split at h <;> simp only [Option.some.injEq, reduceCtorEq] at h <;> subst h
  · refine ⟨?_, hx⟩
    cases hx with
    | ptr hp => obtain ⟨b, rfl⟩ := ok.ptr hp; simp [execOp, ho, hq]
  · refine ⟨?_, hx⟩
    cases hx with
    | lptr => simp [execOp, ho, hq]
  · refine ⟨?_, hx⟩
    cases hx with
    | func => simp [execOp, ho, hq]

theorem unV_ok {op : UnOp} {x v : AV} (h : unV op x = some v) {C : Cx} {u : Value} (hx : R C x u) : ∃ z, (Op.unary op u).run P W = .ok z W ∧ ∀ D, R D v z := by
  unfold unV at h
  split at h <;> simp only [Option.some.injEq, reduceCtorEq] at h <;> subst h
  · have := getInt hx; subst this; exact ⟨_, by simp [Op.unary, Op.intArith], fun _ => .int _ _⟩
  · have := getBool hx; subst this; exact ⟨_, by simp [Op.unary], fun _ => .bool _⟩

theorem mnxV_ok {mx : Bool} {x y v : AV} (h : mnxV mx x y = some v) {C : Cx} {u w : Value} (hx : R C x u) (hy : R C y w) (at_ : Array TypeId) (t : TypeId) :
    ∃ z, (if mx = true then Builtin.max_ at_ t #[u, w] else Builtin.min_ at_ t #[u, w]).run P W = .ok z W ∧ ∀ D, R D v z := by
  unfold mnxV at h
  split at h
  · split at h
    · rename_i hk; subst hk
      simp only [Option.some.injEq] at h; subst h
      have := getInt hx; subst this
      have := getInt hy; subst this
      cases mx
      · exact ⟨_, by simp [Builtin.min_, Builtin.min2], fun _ => .int _ _⟩
      · exact ⟨_, by simp [Builtin.max_, Builtin.max2], fun _ => .int _ _⟩
    · simp at h
  · simp at h

theorem extV_ok {C : Cx} {i : Nat} {x v : AV} (h : extV i x = some v) {u : Value} (hx : R C x u) : ∃ z, (Instr.extract u i).run P W = .ok z W ∧ R C v z := by
  unfold extV at h
  split at h
  · cases hx with
    | @tup _ cs xs hl hi =>
      obtain ⟨y, hy, hr⟩ := RL.get ⟨hl, hi⟩ h
      exact ⟨y, by simp [Instr.extract, hy], hr⟩
  · simp at h

theorem cintV_ok {k : IntKind} {x v : AV} (h : cintV k x = some v) {C : Cx} {u : Value} (hx : R C x u) {s d : TypeId} {k0 : IntKind} (hs : P.underlying s = some (.int k0)) (hd : P.underlying d = some (.int k)) :
    ∃ z, (convert s d u).run P W = .ok z W ∧ ∀ D, R D v z := by
  unfold cintV at h
  split at h
  · simp only [Option.some.injEq] at h; subst h
    have := getInt hx; subst this
    exact ⟨_, by simp [convert, run_und hs, run_und hd, Conv.intToInt], fun _ => .int _ _⟩
  · simp at h

theorem cstrV_ok {x v : AV} (h : cstrV x = some v) {C : Cx} {u : Value} (hx : R C x u) {s d : TypeId} (hs : P.underlying s = some .string) (hd : P.underlying d = some .string) :
    ∃ z, (convert s d u).run P W = .ok z W ∧ ∀ D, R D v z := by
  unfold cstrV at h
  split at h
  · simp only [Option.some.injEq] at h; subst h
    have := getStr hx; subst this
    exact ⟨_, by simp [convert, run_und hs, run_und hd], fun _ => .str _⟩
  · simp at h

/-! ### Parts -/

theorem part_agg {t : TypeId} {n o : Nat} (ha : aggT P t = some true) (hs : sz P t = some n) {cs : Array Value} : (part t cs o).run P W = .ok (.agg (cs.extract o (o + n))) W := by
  simp [part, run_agg ha, run_sz hs]

theorem part_one {t : TypeId} {o : Nat} (ha : aggT P t = some false) {cs : Array Value} {y : Value} (hy : cs[o]? = some y) : (part t cs o).run P W = .ok y W := by
  simp [part, run_agg ha, hy]

theorem extract_eq (cs : Array Value) (o n : Nat) : cs.extract o (o + n) = ((cs.toList.drop o).take n).toArray := by
  apply Array.ext'
  simp [List.extract_eq_take_drop]

theorem part_ok {C : Cx} (ok : C.Ok) {ev v : AV} {x : Value} (h : R C ev x) {t : TypeId} {agg : Bool} {o n : Nat} (ha : aggT P t = some agg) (hs : sz P t = some n) (hp : partOf ev agg o n = some v) :
    ∃ z, (part t x.cells o).run P W = .ok z W ∧ R C v z := by
  rcases partOf_ok ok h hp with ⟨hg, _, hr⟩ | ⟨hg, y, hy, hr⟩
  · subst hg
    exact ⟨_, part_agg ha hs, by rw [extract_eq]; exact hr⟩
  · subst hg
    exact ⟨y, part_one ha hy, hr⟩

theorem fldV_ok {C : Cx} (ok : C.Ok) {x v : AV} {agg : Bool} {off n : Nat} (h : fldV agg off n x = some v) {u : Value} (hx : R C x u) {t : TypeId} {fs : Array Field} {f : Nat} {q : Field}
    (ht : P.underlying t = some (.struct fs)) (hq : fs[f]? = some q) (ho : q.offset = off) (ha : aggT P q.type = some agg) (hs : sz P q.type = some n) :
    ∃ z, (Instr.field t u f).run P W = .ok z W ∧ R C v z := by
  unfold fldV at h
  split at h
  · have hx' := hx
    cases hx with
    | @agg _ cs xs hl hi =>
      obtain ⟨z, hz, hr⟩ := part_ok (P := P) (W := W) ok hx' ha hs h
      refine ⟨z, ?_, hr⟩
      subst ho
      have : (Value.agg xs.toArray).cells = xs.toArray := rfl
      rw [this] at hz
      simp [Instr.field, run_und ht, hq, asAgg, hz]
  · simp at h

theorem indexOf_ok {len : Nat} {i : AV} {n : Nat} (h : indexOf len i = some n) {C : Cx} {u : Value} (hu : R C i u) : ∃ k m, u = .int k m ∧ 0 ≤ m ∧ m < len ∧ m.toNat = n := by
  unfold indexOf at h
  split at h
  · split at h
    · rename_i hc
      simp only [Option.some.injEq] at h
      exact ⟨_, _, getInt hu, hc.1, hc.2, h⟩
    · simp at h
  · simp at h

theorem ixArrV_ok {C : Cx} (ok : C.Ok) {agg : Bool} {len w : Nat} {i x v : AV} (h : ixArrV agg len w i x = some v) {u j : Value} (hx : R C x u) (hi : R C i j) {t el : TypeId}
    (ht : P.underlying t = some (.array len el)) (ha : aggT P el = some agg) (hs : sz P el = some w) : ∃ z, (Instr.index t u j).run P W = .ok z W ∧ R C v z := by
  unfold ixArrV at h
  split at h
  · simp only [Option.bind_eq_some_iff] at h
    obtain ⟨n, hn, hp⟩ := h
    obtain ⟨k, m, rfl, h1, h2, h3⟩ := indexOf_ok hn hi
    have hx' := hx
    cases hx with
    | @agg _ cs xs hl hi =>
      obtain ⟨z, hz, hr⟩ := part_ok (P := P) (W := W) ok hx' ha hs hp
      refine ⟨z, ?_, hr⟩
      have : (Value.agg xs.toArray).cells = xs.toArray := rfl
      rw [this] at hz
      simp [Instr.index, asIntOf, run_und ht, h1, h2, run_sz hs, h3, hz]
  · simp at h

theorem ixStrV_ok {C : Cx} {i x v : AV} (h : ixStrV i x = some v) {u j : Value} (hx : R C x u) (hi : R C i j) {t : TypeId} (ht : P.underlying t = some .string) :
    ∃ z, (Instr.index t u j).run P W = .ok z W ∧ ∀ D, R D v z := by
  unfold ixStrV at h
  split at h
  · simp only [Option.bind_eq_some_iff, Option.some.injEq] at h
    obtain ⟨n, hn, b, hb, rfl⟩ := h
    obtain ⟨k, m, rfl, h1, h2, h3⟩ := indexOf_ok hn hi
    have := getStr hx; subst this
    refine ⟨_, ?_, fun _ => .int _ _⟩
    rename_i s
    have hlt := lt_of_get hb
    have hg : (ByteArray.mk s.toArray)[n]? = some b := by
      rw [getElem?_pos _ _ (by rw [bytes_size]; exact hlt)]
      rw [List.getElem?_eq_getElem hlt] at hb
      simp only [Option.some.injEq] at hb
      rw [← hb]; rfl
    simp [Instr.index, asIntOf, run_und ht, h1, h3, hg]
  · simp at h

theorem fadrV_ok {off : Nat} {x v : AV} (h : fadrV off x = some v) {u : Value} (hx : R (cx st ρ W st.A.length) x u) {t : TypeId} {fs : Array Field} {f : Nat} {q : Field} {n : Nat}
    (ht : P.underlying t = some (.struct fs)) (hq : fs[f]? = some q) (ho : q.offset = off) (hs : sz P q.type = some n) (hn : n ≠ 0) :
    ∃ z, (Instr.fieldAt t u f).run P W = .ok z W ∧ R (cx st ρ W st.A.length) v z := by
  have hrun : ∀ b : Addr, (Instr.fieldAt t (.pointer (some b)) f).run P W = .ok (.pointer (some (b.add q.offset))) W := by
    intro b
    simp [Instr.fieldAt, run_und ht, hq, Instr.sureAddr, fieldPlace, run_sz hs, hn]
  unfold fadrV at h
  split at h <;> simp only [Option.some.injEq, reduceCtorEq] at h <;> subst h
  · cases hx with
    | ptr hp =>
      obtain ⟨h1, h2, ⟨b, rfl⟩, h4, h5⟩ := hp
      refine ⟨_, hrun b, .ptr ⟨h1, h2, ⟨_, rfl⟩, h4, fun w es hg => ?_⟩⟩
      have := h5 w es hg
      simp only [Value.pointer.injEq, Option.some.injEq] at this
      subst this
      rw [add_mk, ho]
      simp [Nat.add_assoc]
  · cases hx with
    | lptr hv hl =>
      refine ⟨_, hrun _, ?_⟩
      rw [add_mk, ho, Nat.add_assoc]
      exact .lptr hv hl

theorem ixAV_ok {len w : Nat} {i x v : AV} (h : ixAV len w i x = some v) {u j : Value} (hx : R (cx st ρ W st.A.length) x u) (hi : R (cx st ρ W st.A.length) i j) {t el : TypeId}
    (ht : P.underlying t = some (.array len el)) (hs : sz P el = some w) : ∃ z, (Instr.indexAt t u j).run P W = .ok z W ∧ R (cx st ρ W st.A.length) v z := by
  have hrun : ∀ (b : Addr) (k : IntKind) (m : Int), 0 ≤ m → m < len → (Instr.indexAt t (.pointer (some b)) (.int k m)).run P W = .ok (.pointer (some (b.add (m.toNat * w)))) W := by
    intro b k m h1 h2
    simp [Instr.indexAt, asIntOf, run_und ht, Instr.sureAddr, h1, h2, run_sz hs]
  unfold ixAV at h
  split at h
  · simp only [Option.bind_eq_some_iff, Option.some.injEq] at h
    obtain ⟨n, hn, rfl⟩ := h
    obtain ⟨k, m, rfl, q1, q2, q3⟩ := indexOf_ok hn hi
    cases hx with
    | ptr hp =>
      obtain ⟨h1, h2, ⟨b, rfl⟩, h4, h5⟩ := hp
      refine ⟨_, hrun b k m q1 q2, .ptr ⟨h1, h2, ⟨_, rfl⟩, h4, fun w' es hg => ?_⟩⟩
      have := h5 w' es hg
      simp only [Value.pointer.injEq, Option.some.injEq] at this
      subst this
      rw [add_mk, q3]
      simp [Nat.add_assoc]
  · simp only [Option.bind_eq_some_iff, Option.some.injEq] at h
    obtain ⟨n, hn, rfl⟩ := h
    obtain ⟨k, m, rfl, q1, q2, q3⟩ := indexOf_ok hn hi
    cases hx with
    | lptr hv hl =>
      refine ⟨_, hrun _ k m q1 q2, ?_⟩
      rw [add_mk, q3, Nat.add_assoc]
      exact .lptr hv hl
  · simp at h

theorem wIs_ok {w ver : Nat} {b : Option Blk} (h : wIs w ver b = true) : ∃ es, b = some (.arr w ver es) := by
  unfold wIs at h
  split at h
  · simp only [Bool.and_eq_true, beq_iff_eq] at h
    obtain ⟨rfl, rfl⟩ := h
    exact ⟨_, rfl⟩
  · simp at h

theorem lit_inv {C : Cx} {es : List AV} {v : Value} (h : R C (.lit es) v) : ∃ a c, v = .slice a es.length c ∧ es.length ≤ c ∧
    (es = [] ∨ ∃ (b o w : Nat) (xs : Nat → Value), a = some ⟨b, o, none⟩ ∧ (∀ (i : Nat) (e : AV), es[i]? = some e → R C.pure e (xs i)) ∧ ∀ i, i < es.length → (xs i : Value).cells.size = w ∧ Lies C.im b (o + i * w) (xs i)) := by
  cases h with
  | lit0 a c => exact ⟨a, c, rfl, by simp, .inl rfl⟩
  | lit xs h hl hc => exact ⟨_, _, rfl, hc, .inr ⟨_, _, _, xs, rfl, h, hl⟩⟩

theorem ixSV_ok {w : Nat} {i x v : AV} (hr : Rel W0 B0 st ρ W) (h : ixSV st w i x = some v) {u j : Value} (hx : R (cx st ρ W st.A.length) x u) (hi : R (cx st ρ W st.A.length) i j) {t el : TypeId}
    (ht : P.underlying t = some (.slice el)) (hs : sz P el = some w) : ∃ z, (Instr.indexAt t u j).run P W = .ok z W ∧ R (cx st ρ W st.A.length) v z := by
  have hrun : ∀ (b : Addr) (k : IntKind) (m : Int) (n c : Nat), 0 ≤ m → m < n → (Instr.indexAt t (.slice (some b) n c) (.int k m)).run P W = .ok (.pointer (some (b.add (m.toNat * w)))) W := by
    intro b k m n c h1 h2
    simp [Instr.indexAt, asIntOf, run_und ht, h1, h2, run_sz hs]
  unfold ixSV at h
  split at h
  · rename_i es
    simp only [Option.bind_eq_some_iff] at h
    obtain ⟨n, hn, el', he, h⟩ := h
    split at h
    · rename_i hw
      simp only [Option.some.injEq] at h; subst h
      obtain ⟨k, m, rfl, q1, q2, q3⟩ := indexOf_ok hn hi
      obtain ⟨a', c, rfl, hc, hcase⟩ := lit_inv hx
      rcases hcase with rfl | ⟨b, o, w', xs, rfl, g1, g2⟩
      · simp at he
      · have hlt := lt_of_get he
        obtain ⟨g3, g4⟩ := g2 n hlt
        have hw' : w' = w := by
          have := ((g1 n el' he).wide (pure_cx_ok _) hw).1
          omega
        subst hw'
        refine ⟨_, hrun _ k m _ _ q1 q2, ?_⟩
        rw [add_mk, q3]
        have := R.lptr (C := cx st ρ W st.A.length) (o := 0) (g1 n el' he) g4
        simpa using this
    · simp at h
  · rename_i lv ix ver s m
    simp only [Option.bind_eq_some_iff] at h
    obtain ⟨n, hn, h⟩ := h
    split at h
    · rename_i hw
      simp only [Option.some.injEq] at h; subst h
      obtain ⟨es, hg⟩ := wIs_ok hw
      obtain ⟨k, q, rfl, q1, q2, q3⟩ := indexOf_ok hn hi
      cases hx with
      | ref hp =>
        obtain ⟨h1, h2, h3, a', c, rfl, h4⟩ := hp
        obtain ⟨g1, g2, g3⟩ := h4 w es hg
        have hal := (hr.arr lv ix w ver es hg).len
        have := g3 (by omega)
        subst this
        refine ⟨_, hrun _ k q _ _ q1 q2, .ptr ⟨h1, h2, ⟨_, rfl⟩, h3, fun w' es' hg' => ?_⟩⟩
        rw [hg] at hg'
        simp only [Option.some.injEq, Blk.arr.injEq] at hg'
        obtain ⟨rfl, _, rfl⟩ := hg'
        rw [add_mk, q3]
        simp [Nat.add_mul, Nat.add_assoc]
    · simp at h
  · simp at h

/-! ### Slices -/

def OptR (C : Cx) : Option AV → Option Value → Prop
  | none, none => True
  | some a, some v => R C a v
  | _, _ => False

theorem boundV_ok {y d n : Nat} {o : Option AV} (h : boundV y d o = some n) {C : Cx} {q : Option Value} (hq : OptR C o q) :
    (q = none ∧ n = d) ∨ ∃ k m, q = some (.int k m) ∧ 0 ≤ m ∧ m ≤ y ∧ m.toNat = n := by
  unfold boundV at h
  split at h
  · simp only [Option.some.injEq] at h
    cases q with
    | none => exact .inl ⟨rfl, h.symm⟩
    | some v => exact hq.elim
  · split at h
    · rename_i hc
      simp only [Option.some.injEq] at h
      cases q with
      | none => exact hq.elim
      | some v => exact .inr ⟨_, _, by rw [getInt hq], hc.1, hc.2, h⟩
    · simp at h
  · simp at h

theorem bounds_ok {isS : Bool} {len cap l h : Nat} {lo hi : Option AV} {C : Cx} {p q : Option Value} (hb : boundV len len hi = some h) (hl : boundV h 0 lo = some l) (hlen : len ≤ cap)
    (hp : OptR C lo p) (hq : OptR C hi q) :
    (Instr.sliceBounds isS len cap p q none).run P W = .ok (l, h, cap) W ∧ l ≤ h ∧ h ≤ len := by
  have hh : (q = none ∧ h = len) ∨ ∃ k m, q = some (.int k m) ∧ 0 ≤ m ∧ m ≤ len ∧ m.toNat = h := boundV_ok hb hq
  have hll : (p = none ∧ l = 0) ∨ ∃ k m, p = some (.int k m) ∧ 0 ≤ m ∧ m ≤ h ∧ m.toNat = l := boundV_ok hl hp
  have e1 : l ≤ h := by rcases hll with ⟨_, h2⟩ | ⟨k, m, _, h3, h4, h5⟩ <;> omega
  have e2 : h ≤ len := by rcases hh with ⟨_, h2⟩ | ⟨k, m, _, h3, h4, h5⟩ <;> omega
  refine ⟨?_, e1, e2⟩
  rcases hh with ⟨rfl, rfl⟩ | ⟨k, m, rfl, h3, h4, rfl⟩
  · rcases hll with ⟨rfl, rfl⟩ | ⟨k', m', rfl, h6, h7, rfl⟩
    · simp [Instr.sliceBounds]
    · simp [Instr.sliceBounds, Instr.sliceBound, asIntOf, h6, h7]
  · have h4' : m ≤ cap := by omega
    rcases hll with ⟨rfl, rfl⟩ | ⟨k', m', rfl, h6, h7, rfl⟩
    · simp [Instr.sliceBounds, Instr.sliceBound, asIntOf, h3, h4']
    · have h7' : m' ≤ ((m.toNat : Nat) : Int) := h7
      simp only [Instr.sliceBounds, Instr.sliceBound, asIntOf, Sem.run_bind, Sem.run_pure, Result.andThen_ok, Sem.run_ite, if_pos (show 0 ≤ m ∧ m ≤ (cap : Int) from ⟨h3, h4'⟩), if_pos (show 0 ≤ m' ∧ m' ≤ ((m.toNat : Nat) : Int) from ⟨h6, h7'⟩)]

end
end Go.QAbs
