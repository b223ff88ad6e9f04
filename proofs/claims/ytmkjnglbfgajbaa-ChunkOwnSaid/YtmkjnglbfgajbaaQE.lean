/- The relation between the abstract store and the world, and how it is carried. No condition. -/
import Derived.Test.YtmkjnglbfgajbaaQD
import Derived.Below
namespace Go.QAbs
set_option linter.unusedVariables false
set_option linter.unusedSimpArgs false
open Go.RowKit (Below)

structure Loc where
  b : Nat
  o : Nat
  c : Nat

/-- Where the blocks of the store lie. -/
abbrev Rho := Nat → Nat → Loc

abbrev CellP := Nat → Nat → Value → Prop

/-- The cells of a value lie in block b from o on. -/
def Lies (cell : CellP) (b o : Nat) (x : Value) : Prop := ∀ j v, x.cells[j]? = some v → cell b (o + j) v

structure Cx where
  im : CellP
  ptr : Nat → Nat → Nat → Nat → Nat → Value → Prop
  ref : Nat → Nat → Nat → Nat → Nat → Value → Prop
  map : Nat → Nat → Value → Prop

def Cx.pure (C : Cx) : Cx := ⟨C.im, fun _ _ _ _ _ _ => False, fun _ _ _ _ _ _ => False, fun _ _ _ => False⟩

structure Cx.le (C D : Cx) : Prop where
  im : ∀ b o v, C.im b o v → D.im b o v
  ptr : ∀ lv ix ver i o v, C.ptr lv ix ver i o v → D.ptr lv ix ver i o v
  ref : ∀ lv ix ver s n v, C.ref lv ix ver s n v → D.ref lv ix ver s n v
  map : ∀ lv ix v, C.map lv ix v → D.map lv ix v

theorem Cx.le.refl (C : Cx) : C.le C := ⟨fun _ _ _ h => h, fun _ _ _ _ _ _ h => h, fun _ _ _ _ _ _ h => h, fun _ _ _ h => h⟩
theorem Cx.le.trans {C D E : Cx} (h : C.le D) (k : D.le E) : C.le E :=
  ⟨fun _ _ _ q => k.im _ _ _ (h.im _ _ _ q), fun _ _ _ _ _ _ q => k.ptr _ _ _ _ _ _ (h.ptr _ _ _ _ _ _ q), fun _ _ _ _ _ _ q => k.ref _ _ _ _ _ _ (h.ref _ _ _ _ _ _ q), fun _ _ _ q => k.map _ _ _ (h.map _ _ _ q)⟩
theorem Cx.le.pure {C D : Cx} (h : C.le D) : C.pure.le D.pure := ⟨h.im, fun _ _ _ _ _ _ h => h, fun _ _ _ _ _ _ h => h, fun _ _ _ h => h⟩
theorem Cx.pure_le (C : Cx) : C.pure.le C := ⟨fun _ _ _ h => h, fun _ _ _ _ _ _ h => h.elim, fun _ _ _ _ _ _ h => h.elim, fun _ _ _ h => h.elim⟩

/-- The abstract value stands for the value. -/
inductive R : Cx → AV → Value → Prop where
  | any {C : Cx} (v : Value) : R C .any v
  | undef {C : Cx} : R C .undef undef
  | bool {C : Cx} (b : Bool) : R C (.bool b) (.bool b)
  | int {C : Cx} (k : IntKind) (n : Int) : R C (.int k n) (.int k n)
  | str {C : Cx} (s : List UInt8) : R C (.str s) (.string ⟨s.toArray⟩)
  | nilptr {C : Cx} : R C .nilptr (.pointer none)
  | ptr {C : Cx} {lv ix ver i o : Nat} {v : Value} (h : C.ptr lv ix ver i o v) : R C (.ptr lv ix ver i o) v
  | lptr {C : Cx} {e : AV} {b p o : Nat} {x : Value} (h : R C.pure e x) (hl : Lies C.im b p x) : R C (.lptr e o) (.pointer (some ⟨b, p + o, none⟩))
  | nils {C : Cx} (a : Option Addr) : R C .nils (.slice a 0 0)
  | lit0 {C : Cx} (a : Option Addr) (c : Nat) : R C (.lit []) (.slice a 0 c)
  | lit {C : Cx} {es : List AV} {b o w c : Nat} (xs : Nat → Value) (h : ∀ (i : Nat) (e : AV), es[i]? = some e → R C.pure e (xs i))
      (hl : ∀ (i : Nat), i < es.length → (xs i).cells.size = w ∧ Lies C.im b (o + i * w) (xs i)) (hc : es.length ≤ c) : R C (.lit es) (.slice (some ⟨b, o, none⟩) es.length c)
  | ref {C : Cx} {lv ix ver s n : Nat} {v : Value} (h : C.ref lv ix ver s n v) : R C (.ref lv ix ver s n) v
  | nilmap {C : Cx} : R C .nilmap (.map none)
  | map {C : Cx} {lv ix : Nat} {v : Value} (h : C.map lv ix v) : R C (.map lv ix) v
  | func {C : Cx} (fn : Fn) {f c : List AV} {xs ys : List Value} (hf : f.length = xs.length) (hc : c.length = ys.length)
      (rf : ∀ (i : Nat) (v : AV) (x : Value), f[i]? = some v → xs[i]? = some x → R C v x) (rc : ∀ (i : Nat) (v : AV) (x : Value), c[i]? = some v → ys[i]? = some x → R C v x) : R C (.func fn f c) (.func fn xs.toArray ys.toArray)
  | nilfunc {C : Cx} : R C .nilfunc .nilFunc
  | iface {C : Cx} (t : TypeId) {v : AV} {x : Value} (h : R C v x) : R C (.iface t v) (.iface t x)
  | niliface {C : Cx} : R C .niliface .nilIface
  | agg {C : Cx} {cs : List AV} {xs : List Value} (hl : cs.length = xs.length) (h : ∀ (i : Nat) (v : AV) (x : Value), cs[i]? = some v → xs[i]? = some x → R C v x) : R C (.agg cs) (.agg xs.toArray)
  | tup {C : Cx} {cs : List AV} {xs : List Value} (hl : cs.length = xs.length) (h : ∀ (i : Nat) (v : AV) (x : Value), cs[i]? = some v → xs[i]? = some x → R C v x) : R C (.tup cs) (.tuple xs.toArray)

theorem Lies.mono {c d : CellP} {b o : Nat} {x : Value} (h : Lies c b o x) (k : ∀ b o v, c b o v → d b o v) : Lies d b o x := fun j v hv => k _ _ _ (h j v hv)

theorem R.mono {C D : Cx} {v : AV} {x : Value} (h : R C v x) (k : C.le D) : R D v x := by
  induction h generalizing D with
  | any v => exact .any v
  | undef => exact .undef
  | bool b => exact .bool b
  | int q n => exact .int q n
  | str s => exact .str s
  | nilptr => exact .nilptr
  | ptr h => exact .ptr (k.ptr _ _ _ _ _ _ h)
  | lptr h hl ih => exact .lptr (ih k.pure) (hl.mono k.im)
  | nils a => exact .nils a
  | lit0 a c => exact .lit0 a c
  | lit xs h hl hc ih => exact .lit xs (fun i e he => ih i e he k.pure) (fun i hi => ⟨(hl i hi).1, (hl i hi).2.mono k.im⟩) hc
  | ref h => exact .ref (k.ref _ _ _ _ _ _ h)
  | nilmap => exact .nilmap
  | map h => exact .map (k.map _ _ _ h)
  | func fn hf hc rf rc ihf ihc => exact .func fn hf hc (fun i v x a b => ihf i v x a b k) (fun i v x a b => ihc i v x a b k)
  | nilfunc => exact .nilfunc
  | iface t h ih => exact .iface t (ih k)
  | niliface => exact .niliface
  | agg hl h ih => exact .agg hl (fun i v x a b => ih i v x a b k)
  | tup hl h ih => exact .tup hl (fun i v x a b => ih i v x a b k)

/-- Lists of values, one by one. -/
def RL (C : Cx) (vs : List AV) (xs : List Value) : Prop := vs.length = xs.length ∧ ∀ (i : Nat) (v : AV) (x : Value), vs[i]? = some v → xs[i]? = some x → R C v x

theorem RL.nil (C : Cx) : RL C [] [] := ⟨rfl, by simp⟩
theorem RL.cons {C : Cx} {v : AV} {x : Value} {vs : List AV} {xs : List Value} (h : R C v x) (k : RL C vs xs) : RL C (v :: vs) (x :: xs) := by
  refine ⟨by simp [k.1], fun i a b ha hb => ?_⟩
  cases i with
  | zero => simp at ha hb; subst ha; subst hb; exact h
  | succ i => exact k.2 i a b (by simpa using ha) (by simpa using hb)
theorem RL.head {C : Cx} {v : AV} {x : Value} {vs : List AV} {xs : List Value} (h : RL C (v :: vs) (x :: xs)) : R C v x := h.2 0 v x rfl rfl
theorem RL.tail {C : Cx} {v : AV} {x : Value} {vs : List AV} {xs : List Value} (h : RL C (v :: vs) (x :: xs)) : RL C vs xs :=
  ⟨by have := h.1; simpa using this, fun i a b ha hb => h.2 (i + 1) a b (by simpa using ha) (by simpa using hb)⟩
theorem RL.cons_inv {C : Cx} {v : AV} {vs : List AV} {ys : List Value} (h : RL C (v :: vs) ys) : ∃ x xs, ys = x :: xs ∧ R C v x ∧ RL C vs xs := by
  cases ys with
  | nil => have := h.1; simp at this
  | cons x xs => exact ⟨x, xs, rfl, h.head, h.tail⟩
theorem RL.nil_inv {C : Cx} {ys : List Value} (h : RL C [] ys) : ys = [] := by
  cases ys with
  | nil => rfl
  | cons x xs => have := h.1; simp at this
theorem RL.mono {C D : Cx} {vs : List AV} {xs : List Value} (h : RL C vs xs) (k : C.le D) : RL D vs xs := ⟨h.1, fun i v x a b => (h.2 i v x a b).mono k⟩
theorem RL.append {C : Cx} {vs us : List AV} {xs ys : List Value} (h : RL C vs xs) (k : RL C us ys) : RL C (vs ++ us) (xs ++ ys) := by
  induction vs generalizing xs with
  | nil => rw [h.nil_inv]; exact k
  | cons v vs ih => obtain ⟨x, xs, rfl, h1, h2⟩ := h.cons_inv; exact .cons h1 (ih h2)
theorem RL.take {C : Cx} {vs : List AV} {xs : List Value} (h : RL C vs xs) (n : Nat) : RL C (vs.take n) (xs.take n) := by
  refine ⟨by simp [h.1], fun i v x a b => ?_⟩
  simp only [List.getElem?_take] at a b
  split at a
  · rename_i hi; rw [if_pos hi] at b; exact h.2 i v x a b
  · simp at a
theorem RL.drop {C : Cx} {vs : List AV} {xs : List Value} (h : RL C vs xs) (n : Nat) : RL C (vs.drop n) (xs.drop n) := by
  refine ⟨by simp [h.1], fun i v x a b => ?_⟩
  simp only [List.getElem?_drop] at a b
  exact h.2 _ v x a b
theorem RL.get {C : Cx} {vs : List AV} {xs : List Value} (h : RL C vs xs) {i : Nat} {v : AV} (hv : vs[i]? = some v) : ∃ x, xs[i]? = some x ∧ R C v x := by
  have hi : i < vs.length := by
    rcases Nat.lt_or_ge i vs.length with h' | h'
    · exact h'
    · rw [List.getElem?_eq_none h'] at hv; simp at hv
  have hx : i < xs.length := by rw [← h.1]; exact hi
  exact ⟨xs[i], List.getElem?_eq_getElem hx, h.2 i v _ hv (List.getElem?_eq_getElem hx)⟩
theorem RL.set {C : Cx} {vs : List AV} {xs : List Value} (h : RL C vs xs) {v : AV} {x : Value} (k : R C v x) (n : Nat) : RL C (vs.set n v) (xs.set n x) := by
  refine ⟨by simp [h.1], fun i a b ha hb => ?_⟩
  rw [List.getElem?_set] at ha hb
  by_cases hn : n = i
  · subst hn
    simp only [if_true] at ha hb
    split at ha <;> split at hb <;> simp at ha hb
    subst ha; subst hb; exact k
  · rw [if_neg hn] at ha hb; exact h.2 i a b ha hb

theorem R.agg' {C : Cx} {cs : List AV} {xs : List Value} (h : RL C cs xs) : R C (.agg cs) (.agg xs.toArray) := .agg h.1 h.2
theorem R.tup' {C : Cx} {cs : List AV} {xs : List Value} (h : RL C cs xs) : R C (.tup cs) (.tuple xs.toArray) := .tup h.1 h.2

/-! ### The relation -/

def Mut (st : St) (ρ : Rho) (b o : Nat) : Prop :=
  ∃ lv ix w ver es, st.get lv ix = some (.arr w ver es) ∧ (ρ lv ix).b = b ∧ (ρ lv ix).o ≤ o ∧ o < (ρ lv ix).o + (ρ lv ix).c * w

def cellP (W : World) : CellP := fun b o v => W.cell? ⟨b, o, none⟩ = some v

def cx (st : St) (ρ : Rho) (W : World) (m : Nat) : Cx where
  im := fun b o v => cellP W b o v ∧ ¬ Mut st ρ b o
  ptr := fun lv ix ver i o v => lv ≤ m ∧ (st.get lv ix).isSome = true ∧ (∃ a, v = .pointer (some a)) ∧ (∀ w u es, st.get lv ix = some (.arr w u es) → ver ≤ u) ∧
    ∀ w es, st.get lv ix = some (.arr w ver es) → v = .pointer (some ⟨(ρ lv ix).b, (ρ lv ix).o + i * w + o, none⟩)
  ref := fun lv ix ver s n v => lv ≤ m ∧ (st.get lv ix).isSome = true ∧ (∀ w u es, st.get lv ix = some (.arr w u es) → ver ≤ u) ∧ ∃ a c, v = .slice a n c ∧
    ∀ w es, st.get lv ix = some (.arr w ver es) → s + n ≤ es.length ∧ c + s = (ρ lv ix).c ∧ (s < (ρ lv ix).c → a = some ⟨(ρ lv ix).b, (ρ lv ix).o + s * w, none⟩)
  map := fun lv ix v => lv ≤ m ∧ (st.get lv ix).isSome = true ∧ ∃ r, v = .map (some r) ∧ ∀ es, st.get lv ix = some (.map es) → r = (ρ lv ix).b

/-- A block of cells lies in the world. -/
structure ArrOk (B0 : Nat) (C : Cx) (W : World) (l : Loc) (w : Nat) (es : List AV) : Prop where
  len : es.length ≤ l.c
  el : ∀ (i : Nat) (e : AV), es[i]? = some e → ∃ x, R C e x ∧ x.cells.size = w ∧ Lies (cellP W) l.b (l.o + i * w) x
  mem : ∀ j, j < l.c * w → B0 ≤ l.b ∧ (W.cell? ⟨l.b, l.o + j, none⟩).isSome = true ∧ W.frozen? ⟨l.b, l.o + j, none⟩ = false

structure MapOk (B0 : Nat) (C : Cx) (W : World) (l : Loc) (es : List (AV × AV)) : Prop where
  b0 : B0 ≤ l.b
  ob : ∃ (en : Array MapEntry) (clock : Nat), W.heap[l.b]? = some (.map en clock) ∧ en.size = es.length ∧
    ∀ (i : Nat) (k v : AV), es[i]? = some (k, v) → isKey k = true ∧ ∃ x : MapEntry, en[i]? = some x ∧ R C k x.key ∧ R C v x.val

structure Rel (W0 : World) (B0 : Nat) (st : St) (ρ : Rho) (W : World) : Prop where
  below : Below B0 W0 W
  b0 : B0 ≤ W.heap.size
  arr : ∀ lv ix w ver es, st.get lv ix = some (.arr w ver es) → ArrOk B0 (cx st ρ W lv) W (ρ lv ix) w es
  sep : ∀ lv ix w ver es lv' ix' w' ver' es', st.get lv ix = some (.arr w ver es) → st.get lv' ix' = some (.arr w' ver' es') → ¬ (lv = lv' ∧ ix = ix') →
    ∀ j j', j < (ρ lv ix).c * w → j' < (ρ lv' ix').c * w' → ¬ ((ρ lv ix).b = (ρ lv' ix').b ∧ (ρ lv ix).o + j = (ρ lv' ix').o + j')
  map : ∀ lv ix es, st.get lv ix = some (.map es) → MapOk B0 (cx st ρ W lv) W (ρ lv ix) es
  msep : ∀ lv ix es lv' ix' es', st.get lv ix = some (.map es) → st.get lv' ix' = some (.map es') → ¬ (lv = lv' ∧ ix = ix') → (ρ lv ix).b ≠ (ρ lv' ix').b

/-- How the store, its place and the world go on. -/
structure Ev (st : St) (ρ : Rho) (W : World) (st' : St) (ρ' : Rho) (W' : World) : Prop where
  len : st'.A.length = st.A.length
  le : ∀ m, m ≤ st.A.length → (cx st ρ W m).le (cx st' ρ' W' m)
  old : ∀ (lv : Nat) (r : Bool × List Blk), st.A[lv]? = some r → ∃ r' : Bool × List Blk, st'.A[lv]? = some r' ∧ r'.1 = r.1 ∧ (r.1 = true → r' = r)
  ro : st'.ro = st.ro
  cur : st.ro = true → st'.L = st.L

theorem Ev.refl (st : St) (ρ : Rho) (W : World) : Ev st ρ W st ρ W := ⟨rfl, fun _ _ => .refl _, fun _ r h => ⟨r, h, rfl, fun _ => rfl⟩, rfl, fun _ => rfl⟩

theorem Ev.trans {st st' st'' : St} {ρ ρ' ρ'' : Rho} {W W' W'' : World} (h : Ev st ρ W st' ρ' W') (k : Ev st' ρ' W' st'' ρ'' W'') : Ev st ρ W st'' ρ'' W'' := by
  refine ⟨k.len.trans h.len, fun m hm => (h.le m hm).trans (k.le m (by rw [h.len]; exact hm)), fun lv r hr => ?_, k.ro.trans h.ro, fun hro => ?_⟩
  · obtain ⟨r', h1, h2, h3⟩ := h.old lv r hr
    obtain ⟨r'', k1, k2, k3⟩ := k.old lv r' h1
    refine ⟨r'', k1, k2.trans h2, fun ht => ?_⟩
    have := k3 (h2.trans ht)
    rw [this, h3 ht]
  · rw [k.cur (h.ro.trans hro), h.cur hro]

end Go.QAbs
