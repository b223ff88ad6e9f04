/- Laws on the store, and the evaluator's equations in the form in which they are used. No condition. -/
import Derived.Test.YtmkjnglbfgajbaaQC
namespace Go.QAbs
set_option linter.unusedVariables false
set_option linter.unusedSimpArgs false

/-! ### simp goes into the first part alone -/
section
variable {α β : Type}
theorem bind_congrL {x y : Option α} {f : α → Option β} (h : x = y) : x.bind f = y.bind f := by rw [h]
theorem iteV_congr {F G : Run} {e : Env} {st : St} {c c' : AV} (h : c = c') : iteV F G e st c = iteV F G e st c' := by rw [h]
theorem runW_congr {O : Orc} {i : PI} {K : RunI} {e : Env} {st : St} {b b' : Bool} (h : b = b') : runW O i K e st b = runW O i K e st b' := by rw [h]
theorem itS_congr {F : Run} {e e' : Env} {st st' : St} (h : e = e') (h' : st = st') : itS F e st = itS F e' st' := by rw [h, h']
theorem seqK_congr {F : Run} {x y : Ex × Env × St} (h : x = y) : seqK F x = seqK F y := by rw [h]
theorem runK_congr {K : RunI} {e : Env} {d : Option Nat} {x y : AV × St} (h : x = y) : runK K e d x = runK K e d y := by rw [h]
end

section
variable (O : Orc) (I : Run → Run) (e : Env) (st : St)
theorem exec_skip : exec O I .skip e st = some (.norm, e, st) := rfl
theorem exec_ret : exec O I .ret e st = some (.ret, e, st) := rfl
theorem exec_exit (id : Nat) : exec O I (.exit id) e st = some (.ex id, e, st) := rfl
theorem exec_seq (a b : PC) : exec O I (.seq a b) e st = (exec O I a e st).bind (seqK (exec O I b)) := rfl
theorem exec_ite (c : Opd) (a b : PC) : exec O I (.ite c a b) e st = iteV (exec O I a) (exec O I b) e st (c.get e) := rfl
theorem exec_block (id : Nat) (b : PC) : exec O I (.block id b) e st = (exec O I b e st).bind (blockK id) := rfl
theorem exec_loop (b : PC) : exec O itS (.loop b) e st = itS (exec O itS b) e st := rfl
theorem exec_reg (keep : List Nat) (is : List PI) : exec O I (.reg keep is) e st = (runIs O is e st).bind (regK keep) := rfl
theorem runIs_nil : runIs O [] e st = some (e, st) := rfl
theorem runIs_cons (i : PI) (is : List PI) : runIs O (i :: is) e st = (wantedV e i.guard).bind (runW O i (runIs O is) e st) := rfl
theorem runW_true (i : PI) (K : RunI) : runW O i K e st true = (evalI O e st i).bind (runK K e i.dst) := rfl
theorem runW_false (i : PI) (K : RunI) : runW O i K e st false = K (setD e i.dst .undef) st := rfl
theorem seqK_norm (F : Run) : seqK F (.norm, e, st) = F e st := rfl
theorem seqK_ex (F : Run) (id : Nat) : seqK F (.ex id, e, st) = some (.ex id, e, st) := rfl
theorem seqK_ret (F : Run) : seqK F (.ret, e, st) = some (.ret, e, st) := rfl
theorem iteV_true (F G : Run) : iteV F G e st (.bool true) = F e st := rfl
theorem iteV_false (F G : Run) : iteV F G e st (.bool false) = G e st := rfl
theorem runK_mk (K : RunI) (d : Option Nat) (v : AV) : runK K e d (v, st) = K (setD e d v) st := rfl
end

theorem look_nil (t : Nat) : look [] t = .any := rfl
theorem look_cons (k : Nat) (v : AV) (e : Env) (t : Nat) : look ((k, v) :: e) t = if k = t then v else look e t := rfl

/-! ### The store -/

theorem St.get_push (A : List (Bool × List Blk)) (ro r : Bool) (L0 L : List Blk) (lv ix : Nat) :
    St.get ⟨A ++ [(ro, L0)], r, L⟩ lv ix = if lv = A.length + 1 then vis L[ix]? else St.get ⟨A, ro, L0⟩ lv ix := by
  simp only [St.get, List.length_append, List.length_cons, List.length_nil, Nat.zero_add]
  by_cases h1 : lv = A.length + 1
  · simp [h1]
  · by_cases h2 : lv = A.length
    · simp [h2]
    · simp only [if_neg h1, if_neg h2]
      by_cases h3 : lv < A.length
      · rw [List.getElem?_append_left h3]
      · rw [List.getElem?_eq_none (by simp; omega), List.getElem?_eq_none (by omega)]

theorem St.get_cur (A : List (Bool × List Blk)) (ro : Bool) (L : List Blk) (ix : Nat) : St.get ⟨A, ro, L⟩ A.length ix = vis L[ix]? := by simp [St.get]

theorem St.get_le {st : St} {lv ix : Nat} {b : Blk} (h : st.get lv ix = some b) : lv ≤ st.A.length := by
  unfold St.get at h
  split at h
  · omega
  · rename_i h1
    by_cases h2 : lv < st.A.length
    · omega
    · rw [List.getElem?_eq_none (by omega)] at h; simp at h

/-- A store into the current region. -/
theorem St.put_cur (A : List (Bool × List Blk)) (r : Bool × List Blk) (L : List Blk) (ix : Nat) (b : Blk) :
    St.put ⟨A ++ [r], false, L⟩ (A.length + 1) ix b = if ix < L.length then some ⟨A ++ [r], false, L.set ix b⟩ else none := by
  simp [St.put]

theorem St.new_cur (A : List (Bool × List Blk)) (L : List Blk) (b : Blk) : St.new ⟨A, false, L⟩ b = some (L.length, ⟨A, false, L ++ [b]⟩) := by
  simp [St.new]

theorem pop_append (A : List (Bool × List Blk)) (r : Bool × List Blk) : pop (A ++ [r]) = some (A, r) := by
  induction A with
  | nil => rfl
  | cons a A ih =>
    cases A with
    | nil => rfl
    | cons b A => simp only [List.cons_append] at ih ⊢; simp [pop, ih]

theorem St.eta (st : St) : (⟨st.A, st.ro, st.L⟩ : St) = st := rfl

theorem len_push (A : List (Bool × List Blk)) (r : Bool × List Blk) : (A ++ [r]).length = A.length + 1 := by simp


end Go.QAbs
