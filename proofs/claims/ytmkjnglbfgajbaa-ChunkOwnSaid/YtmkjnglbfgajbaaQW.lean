/- Walking through resolved code, step by step: the lemmas that a proof about a function applies. No condition. -/
import Derived.Test.YtmkjnglbfgajbaaQR1
namespace Go.QAbs
set_option linter.unusedVariables false
set_option linter.unusedSimpArgs false
set_option linter.unusedSimpArgs false
set_option linter.unusedVariables false

/-! ### Reading the slots, in a form that forces what is read -/

def lookO : Env → Nat → Option AV
  | [], _ => none
  | (k, v) :: e, t => match Nat.beq k t with
    | true => some v
    | false => lookO e t

def opdO (e : Env) : Opd → Option AV
  | .s t => lookO e t
  | .v a => some a

def getsO (e : Env) : List Opd → Option (List AV)
  | [] => some []
  | o :: os => match opdO e o with
    | some v => match getsO e os with
      | some r => some (v :: r)
      | none => none
    | none => none

def keepO : List Nat → Env → Option Env
  | [], _ => some []
  | k :: ks, e => match lookO e k with
    | some v => match keepO ks e with
      | some r => some ((k, v) :: r)
      | none => none
    | none => match keepO ks e with
      | some r => some ((k, .any) :: r)
      | none => none

def forceL : List AV → Option (List AV)
  | [] => some []
  | v :: vs => match forceL vs with
    | some r => some (v :: r)
    | none => none

def forceB : List Blk → Option (List Blk)
  | [] => some []
  | v :: vs => match forceB vs with
    | some r => some (v :: r)
    | none => none

theorem lookO_some : ∀ {e : Env} {t : Nat} {v : AV}, lookO e t = some v → look e t = v
  | [], _, _, h => by simp [lookO] at h
  | (k, w) :: e, t, v, h => by
    simp only [lookO] at h
    split at h
    · rename_i hb
      simp only [Option.some.injEq] at h
      rw [look, if_pos (Nat.eq_of_beq_eq_true hb)]; exact h
    · rename_i hb
      have hn : k ≠ t := fun q => by subst q; simp at hb
      rw [look, if_neg hn]; exact lookO_some h

theorem lookO_none : ∀ {e : Env} {t : Nat}, lookO e t = none → look e t = .any
  | [], _, _ => rfl
  | (k, w) :: e, t, h => by
    simp only [lookO] at h
    split at h
    · simp at h
    · rename_i hb
      have hn : k ≠ t := fun q => by subst q; simp at hb
      rw [look, if_neg hn]; exact lookO_none h

theorem opdO_some {e : Env} {o : Opd} {v : AV} (h : opdO e o = some v) : o.get e = v := by
  cases o with
  | s t => exact lookO_some h
  | v a => simp only [opdO, Option.some.injEq] at h; exact h

theorem getsO_some : ∀ {e : Env} {os : List Opd} {vs : List AV}, getsO e os = some vs → gets e os = vs
  | _, [], vs, h => by simp only [getsO, Option.some.injEq] at h; rw [← h]; rfl
  | e, o :: os, vs, h => by
    simp only [getsO] at h
    split at h
    · rename_i v hv
      split at h
      · rename_i r hr
        simp only [Option.some.injEq] at h
        rw [← h, gets, opdO_some hv, getsO_some hr]
      · simp at h
    · simp at h

theorem keepO_some : ∀ {ks : List Nat} {e r : Env}, keepO ks e = some r → keepEnv ks e = r
  | [], _, _, h => by simp only [keepO, Option.some.injEq] at h; rw [← h]; rfl
  | k :: ks, e, r, h => by
    simp only [keepO] at h
    split at h
    · rename_i v hv
      split at h
      · rename_i q hq
        simp only [Option.some.injEq] at h
        rw [← h, keepEnv, lookO_some hv, keepO_some hq]
      · simp at h
    · rename_i hv
      split at h
      · rename_i q hq
        simp only [Option.some.injEq] at h
        rw [← h, keepEnv, lookO_none hv, keepO_some hq]
      · simp at h

theorem forceL_some : ∀ {l r : List AV}, forceL l = some r → l = r
  | [], r, h => by simpa [forceL] using h
  | v :: vs, r, h => by
    simp only [forceL] at h
    split at h
    · rename_i q hq
      simp only [Option.some.injEq] at h
      rw [← h, forceL_some hq]
    · simp at h

theorem forceB_some : ∀ {l r : List Blk}, forceB l = some r → l = r
  | [], r, h => by simpa [forceB] using h
  | v :: vs, r, h => by
    simp only [forceB] at h
    split at h
    · rename_i q hq
      simp only [Option.some.injEq] at h
      rw [← h, forceB_some hq]
    · simp at h

/-! ### Runs with a continuation -/

inductive Fr where
  | seq (b : PC)
  | blk (id : Nat)
  | inv (P : Env → St → Prop)

abbrev Post := Ex → Env → St → Prop

/-- What is to hold behind a piece of code that ended so. -/
def RkD (O : Orc) : List Fr → Post → Ex → Env → St → Prop
  | [], Q, x, e, st => Q x e st
  | .seq b :: k, Q, .norm, e, st => ∃ x e' st', exec O itS b e st = some (x, e', st') ∧ RkD O k Q x e' st'
  | .seq _ :: k, Q, x, e, st => RkD O k Q x e st
  | .blk id :: k, Q, .ex id', e, st => if id' = id then RkD O k Q .norm e st else RkD O k Q (.ex id') e st
  | .blk _ :: k, Q, x, e, st => RkD O k Q x e st
  | .inv P :: _, _, .norm, e, st => P e st
  | .inv _ :: k, Q, x, e, st => RkD O k Q x e st

structure Rk (O : Orc) (k : List Fr) (Q : Post) (x : Ex) (e : Env) (st : St) : Prop where
  h : RkD O k Q x e st

structure Ru (O : Orc) (c : PC) (k : List Fr) (Q : Post) (e : Env) (st : St) : Prop where
  h : ∃ x e' st', exec O itS c e st = some (x, e', st') ∧ RkD O k Q x e' st'

structure Is (O : Orc) (is : List PI) (keep : List Nat) (k : List Fr) (Q : Post) (e : Env) (st : St) : Prop where
  h : ∃ e' st', runIs O is e st = some (e', st') ∧ RkD O k Q .norm (keepEnv keep e') st'

/-- What a function gives. -/
def Sp (T : Tab) (f : FuncId) (args : List AV) (st : St) (Q : AV → St → Prop) : Prop := ∃ v st', S T f args st = some (v, st') ∧ Q v st'

section
variable {O : Orc} {k : List Fr} {Q : Post} {e : Env} {st : St}

theorem ru_seq {a b : PC} (h : Ru O a (.seq b :: k) Q e st) : Ru O (.seq a b) k Q e st := by
  obtain ⟨⟨x, e', st', h1, h2⟩⟩ := h
  cases x with
  | norm =>
    obtain ⟨x, e2, st2, h3, h4⟩ := h2
    exact ⟨⟨x, e2, st2, by rw [exec_seq, h1, Option.bind_some, seqK_norm]; exact h3, h4⟩⟩
  | ex id => exact ⟨⟨.ex id, e', st', by rw [exec_seq, h1]; rfl, h2⟩⟩
  | ret => exact ⟨⟨.ret, e', st', by rw [exec_seq, h1]; rfl, h2⟩⟩

theorem ru_skip (h : Rk O k Q .norm e st) : Ru O .skip k Q e st := ⟨⟨_, _, _, rfl, h.h⟩⟩
theorem ru_ret (h : Rk O k Q .ret e st) : Ru O .ret k Q e st := ⟨⟨_, _, _, rfl, h.h⟩⟩
theorem ru_exit {id : Nat} (h : Rk O k Q (.ex id) e st) : Ru O (.exit id) k Q e st := ⟨⟨_, _, _, rfl, h.h⟩⟩

theorem ru_block {id : Nat} {b : PC} (h : Ru O b (.blk id :: k) Q e st) : Ru O (.block id b) k Q e st := by
  obtain ⟨⟨x, e', st', h1, h2⟩⟩ := h
  cases x with
  | norm => exact ⟨⟨.norm, e', st', by rw [exec_block, h1]; rfl, h2⟩⟩
  | ex id' =>
    simp only [RkD] at h2
    by_cases hid : id' = id
    · rw [if_pos hid] at h2
      exact ⟨⟨.norm, e', st', by rw [exec_block, h1]; simp [blockK, hid], h2⟩⟩
    · rw [if_neg hid] at h2
      exact ⟨⟨.ex id', e', st', by rw [exec_block, h1]; simp [blockK, hid], h2⟩⟩
  | ret => exact ⟨⟨.ret, e', st', by rw [exec_block, h1]; rfl, h2⟩⟩

theorem ru_iteT {c : Opd} {a b : PC} (hc : opdO e c = some (.bool true)) (h : Ru O a k Q e st) : Ru O (.ite c a b) k Q e st := by
  obtain ⟨⟨x, e', st', h1, h2⟩⟩ := h
  exact ⟨⟨x, e', st', by rw [exec_ite, opdO_some hc, iteV_true]; exact h1, h2⟩⟩
theorem ru_iteF {c : Opd} {a b : PC} (hc : opdO e c = some (.bool false)) (h : Ru O b k Q e st) : Ru O (.ite c a b) k Q e st := by
  obtain ⟨⟨x, e', st', h1, h2⟩⟩ := h
  exact ⟨⟨x, e', st', by rw [exec_ite, opdO_some hc, iteV_false]; exact h1, h2⟩⟩
theorem ru_ite {c : Opd} {a b : PC} {t : Bool} (hc : opdO e c = some (.bool t)) (h : t = true → Ru O a k Q e st) (h' : t = false → Ru O b k Q e st) : Ru O (.ite c a b) k Q e st := by
  cases t with
  | true => exact ru_iteT hc (h rfl)
  | false => exact ru_iteF hc (h' rfl)

theorem ru_reg {keep : List Nat} {is : List PI} (h : Is O is keep k Q e st) : Ru O (.reg keep is) k Q e st := by
  obtain ⟨⟨e', st', h1, h2⟩⟩ := h
  exact ⟨⟨.norm, keepEnv keep e', st', by rw [exec_reg, h1]; rfl, h2⟩⟩

/-- A loop, by a measure. -/
theorem ru_loop {b : PC} (P : Nat → Env → St → Prop) (n : Nat) (h0 : P n e st)
    (step : ∀ n e st, P n e st → Ru O b (.inv (fun e st => ∃ m, m < n ∧ P m e st) :: k) Q e st) : Ru O (.loop b) k Q e st := by
  have key : ∀ n e st, P n e st → Ru O (.loop b) k Q e st := by
    intro n
    induction n using Nat.strongRecOn with
    | ind n ih =>
      intro e st h
      obtain ⟨⟨x, e', st', h1, h2⟩⟩ := step n e st h
      cases x with
      | norm =>
        obtain ⟨m, hm, hp⟩ := h2
        obtain ⟨⟨x, e2, st2, h3, h4⟩⟩ := ih m hm e' st' hp
        exact ⟨⟨x, e2, st2, by rw [exec_loop, itS_step, h1, Option.bind_some, seqK_norm]; exact h3, h4⟩⟩
      | ex id => exact ⟨⟨.ex id, e', st', by rw [exec_loop, itS_step, h1]; rfl, h2⟩⟩
      | ret => exact ⟨⟨.ret, e', st', by rw [exec_loop, itS_step, h1]; rfl, h2⟩⟩
  exact key n e st h0

/-- A loop whose state is told by a parameter. -/
theorem ru_loopP {α : Type} {b : PC} (E : α → Env) (X : α → St) (P : α → Prop) (m : α → Nat) (a : α) (he : e = E a) (hs : st = X a) (h0 : P a)
    (step : ∀ a, P a → Ru O b (.inv (fun e st => ∃ c, (e = E c ∧ st = X c) ∧ (P c ∧ m c < m a)) :: k) Q (E a) (X a)) : Ru O (.loop b) k Q e st := by
  refine ru_loop (fun n e st => ∃ a, (e = E a ∧ st = X a) ∧ (P a ∧ m a = n)) (m a) ⟨a, ⟨he, hs⟩, h0, rfl⟩ ?_
  rintro n e st ⟨a, ⟨rfl, rfl⟩, hp, hm⟩
  obtain ⟨⟨x, e', st', h1, h2⟩⟩ := step a hp
  refine ⟨⟨x, e', st', h1, ?_⟩⟩
  cases x with
  | norm =>
    obtain ⟨c, hc, hp, hl⟩ := h2
    exact ⟨m c, by omega, c, hc, hp, rfl⟩
  | ex id => exact h2
  | ret => exact h2

/-! behind a piece of code -/
theorem rk_nil {x : Ex} (h : Q x e st) : Rk O [] Q x e st := ⟨h⟩
theorem rk_seq {b : PC} (h : Ru O b k Q e st) : Rk O (.seq b :: k) Q .norm e st := ⟨h.h⟩
theorem rk_seq_ret {b : PC} (h : Rk O k Q .ret e st) : Rk O (.seq b :: k) Q .ret e st := ⟨h.h⟩
theorem rk_seq_ex {b : PC} {id : Nat} (h : Rk O k Q (.ex id) e st) : Rk O (.seq b :: k) Q (.ex id) e st := ⟨h.h⟩
theorem rk_blk {id : Nat} (h : Rk O k Q .norm e st) : Rk O (.blk id :: k) Q .norm e st := ⟨h.h⟩
theorem rk_blk_ret {id : Nat} (h : Rk O k Q .ret e st) : Rk O (.blk id :: k) Q .ret e st := ⟨h.h⟩
theorem rk_blk_eq {id id' : Nat} (hi : Nat.beq id' id = true) (h : Rk O k Q .norm e st) : Rk O (.blk id :: k) Q (.ex id') e st := by
  refine ⟨?_⟩; simp only [RkD]; rw [if_pos (Nat.eq_of_beq_eq_true hi)]; exact h.h
theorem rk_blk_ne {id id' : Nat} (hi : Nat.beq id' id = false) (h : Rk O k Q (.ex id') e st) : Rk O (.blk id :: k) Q (.ex id') e st := by
  refine ⟨?_⟩; simp only [RkD]; rw [if_neg (fun q => by subst q; simp at hi)]; exact h.h
theorem rk_inv {P : Env → St → Prop} (h : P e st) : Rk O (.inv P :: k) Q .norm e st := ⟨h⟩
theorem rk_inv_ret {P : Env → St → Prop} (h : Rk O k Q .ret e st) : Rk O (.inv P :: k) Q .ret e st := ⟨h.h⟩
theorem rk_inv_ex {P : Env → St → Prop} {id : Nat} (h : Rk O k Q (.ex id) e st) : Rk O (.inv P :: k) Q (.ex id) e st := ⟨h.h⟩

variable {keep : List Nat} {is : List PI}

theorem is_nil {e' : Env} (he : keepO keep e = some e') (h : Rk O k Q .norm e' st) : Is O [] keep k Q e st :=
  ⟨⟨e, st, rfl, by rw [keepO_some he]; exact h.h⟩⟩

variable {d : Nat} {own : Bool} {op : PO}

/-! guards -/
theorem is_gT {t : Nat} {w : Bool} {od : Option Nat} (hg : lookO e t = some (.bool w)) (h : Is O (⟨od, none, own, op⟩ :: is) keep k Q e st) : Is O (⟨od, some (t, w), own, op⟩ :: is) keep k Q e st := by
  obtain ⟨⟨e', st', h1, h2⟩⟩ := h
  refine ⟨⟨e', st', ?_, h2⟩⟩
  rw [runIs_cons] at h1 ⊢
  have : wantedV e (some (t, w)) = some true := by simp [wantedV, lookO_some hg, wantedB]
  simp only [this]; exact h1

theorem is_gF {t : Nat} {w w' : Bool} (hg : lookO e t = some (.bool w')) (hw : (w' == w) = false) (h : Is O is keep k Q ((d, .undef) :: e) st) : Is O (⟨some d, some (t, w), own, op⟩ :: is) keep k Q e st := by
  obtain ⟨⟨e', st', h1, h2⟩⟩ := h
  refine ⟨⟨e', st', ?_, h2⟩⟩
  rw [runIs_cons]
  have : wantedV e (some (t, w)) = some false := by simp [wantedV, lookO_some hg, wantedB, hw]
  rw [this, Option.bind_some, runW_false]; exact h1

theorem is_gU {t : Nat} {w : Bool} (hg : lookO e t = some .undef) (h : Is O is keep k Q ((d, .undef) :: e) st) : Is O (⟨some d, some (t, w), own, op⟩ :: is) keep k Q e st := by
  obtain ⟨⟨e', st', h1, h2⟩⟩ := h
  refine ⟨⟨e', st', ?_, h2⟩⟩
  rw [runIs_cons]
  have : wantedV e (some (t, w)) = some false := by simp [wantedV, lookO_some hg, wantedB]
  rw [this, Option.bind_some, runW_false]; exact h1

theorem is_gFn {t : Nat} {w w' : Bool} (hg : lookO e t = some (.bool w')) (hw : (w' == w) = false) (h : Is O is keep k Q e st) : Is O (⟨none, some (t, w), own, op⟩ :: is) keep k Q e st := by
  obtain ⟨⟨e', st', h1, h2⟩⟩ := h
  refine ⟨⟨e', st', ?_, h2⟩⟩
  rw [runIs_cons]
  have : wantedV e (some (t, w)) = some false := by simp [wantedV, lookO_some hg, wantedB, hw]
  rw [this, Option.bind_some, runW_false]; exact h1

theorem is_gUn {t : Nat} {w : Bool} (hg : lookO e t = some .undef) (h : Is O is keep k Q e st) : Is O (⟨none, some (t, w), own, op⟩ :: is) keep k Q e st := by
  obtain ⟨⟨e', st', h1, h2⟩⟩ := h
  refine ⟨⟨e', st', ?_, h2⟩⟩
  rw [runIs_cons]
  have : wantedV e (some (t, w)) = some false := by simp [wantedV, lookO_some hg, wantedB]
  rw [this, Option.bind_some, runW_false]; exact h1

/-! one operation -/
theorem is_of {od : Option Nat} {v : AV} {st' : St} (hv : evalPI O e st op = some (v, st')) (h : Is O is keep k Q (setD e od v) st') : Is O (⟨od, none, false, op⟩ :: is) keep k Q e st := by
  obtain ⟨⟨e', st2, h1, h2⟩⟩ := h
  refine ⟨⟨e', st2, ?_, h2⟩⟩
  rw [runIs_cons]
  have : wantedV e none = some true := rfl
  simp only [this, Option.bind_some, runW_true]
  have h3 : evalI O e st ⟨od, none, false, op⟩ = some (v, st') := by simp only [evalI, Bool.false_eq_true, if_false]; exact hv
  rw [h3, Option.bind_some, runK_mk]; exact h1

/-- An operation that is masked, of a read that sees no store. -/
theorem is_ofm {od : Option Nat} {v : AV} (hr : op.reads = true) (hv : evalPO e st.mask op = some (v, st.mask)) (h : Is O is keep k Q (setD e od v) st) : Is O (⟨od, none, true, op⟩ :: is) keep k Q e st := by
  obtain ⟨⟨e', st2, h1, h2⟩⟩ := h
  refine ⟨⟨e', st2, ?_, h2⟩⟩
  rw [runIs_cons]
  have : wantedV e none = some true := rfl
  simp only [this, Option.bind_some, runW_true]
  have h3 : evalI O e st ⟨od, none, true, op⟩ = some (v, st) := by simp only [evalI, if_true, hr, hv, Option.bind_some, pureK]
  rw [h3, Option.bind_some, runK_mk]; exact h1

theorem is_val {od : Option Nat} {v : AV} (hv : evalPO e st op = some (v, st)) (hp : evalPI O e st op = evalPO e st op) (h : Is O is keep k Q (setD e od v) st) : Is O (⟨od, none, false, op⟩ :: is) keep k Q e st :=
  is_of (hp.trans hv) h

theorem is_mv {x : Opd} {v : AV} (hx : opdO e x = some v) (h : Is O is keep k Q ((d, v) :: e) st) : Is O (⟨some d, none, false, .mv x⟩ :: is) keep k Q e st :=
  is_of (v := v) (st' := st) (by rw [← opdO_some hx]; rfl) h

theorem is_pick {c a b : Opd} {t : Bool} {va vb v : AV} (hc : opdO e c = some (.bool t)) (ha : opdO e a = some va) (hb : opdO e b = some vb) (hv : (match t with | true => some va | false => some vb) = some v)
    (h : Is O is keep k Q ((d, v) :: e) st) : Is O (⟨some d, none, false, .pick c a b⟩ :: is) keep k Q e st :=
  is_of (v := v) (st' := st) (by simp only [evalPI, evalPO, opdO_some hc, opdO_some ha, opdO_some hb, pickV, Option.bind_some, ret1]; cases t <;> simp at hv <;> simp [hv]) h

/-- Integers. -/
theorem is_add {x y : Opd} {kd : IntKind} {a b : Int} (hx : opdO e x = some (.int kd a)) (hy : opdO e y = some (.int kd b)) (h : Is O is keep k Q ((d, .int kd (kd.wrap (a + b))) :: e) st) : Is O (⟨some d, none, false, .bin .add x y⟩ :: is) keep k Q e st :=
  is_of (st' := st) (by simp only [evalPI, evalPO, opdO_some hx, opdO_some hy, binV, isSh, if_false, if_true, intBin, Bool.false_eq_true, Option.bind_some, ret1]) h
theorem is_sub {x y : Opd} {kd : IntKind} {a b : Int} (hx : opdO e x = some (.int kd a)) (hy : opdO e y = some (.int kd b)) (h : Is O is keep k Q ((d, .int kd (kd.wrap (a - b))) :: e) st) : Is O (⟨some d, none, false, .bin .sub x y⟩ :: is) keep k Q e st :=
  is_of (st' := st) (by simp only [evalPI, evalPO, opdO_some hx, opdO_some hy, binV, isSh, if_false, if_true, intBin, Bool.false_eq_true, Option.bind_some, ret1]) h
theorem is_mul {x y : Opd} {kd : IntKind} {a b : Int} (hx : opdO e x = some (.int kd a)) (hy : opdO e y = some (.int kd b)) (h : Is O is keep k Q ((d, .int kd (kd.wrap (a * b))) :: e) st) : Is O (⟨some d, none, false, .bin .mul x y⟩ :: is) keep k Q e st :=
  is_of (st' := st) (by simp only [evalPI, evalPO, opdO_some hx, opdO_some hy, binV, isSh, if_false, if_true, intBin, Bool.false_eq_true, Option.bind_some, ret1]) h
theorem wrap64 {n : Int} (h0 : -9223372036854775808 ≤ n) (h1 : n < 9223372036854775808) : IntKind.i64.wrap n = n := by
  have e1 : IntKind.i64.signed = true := rfl
  have e2 : IntKind.i64.bits = 64 := rfl
  simp only [IntKind.wrap, e1, e2, Bool.true_and, decide_eq_true_eq]
  split <;> omega
theorem is_addS {x y : Opd} {a b : Int} (hx : opdO e x = some (.int .i64 a)) (hy : opdO e y = some (.int .i64 b)) (hw : -9223372036854775808 ≤ a + b ∧ a + b < 9223372036854775808) (h : Is O is keep k Q ((d, .int .i64 (a + b)) :: e) st) : Is O (⟨some d, none, false, .bin .add x y⟩ :: is) keep k Q e st := by
  rw [← wrap64 hw.1 hw.2] at h; exact is_add hx hy h
theorem is_subS {x y : Opd} {a b : Int} (hx : opdO e x = some (.int .i64 a)) (hy : opdO e y = some (.int .i64 b)) (hw : -9223372036854775808 ≤ a - b ∧ a - b < 9223372036854775808) (h : Is O is keep k Q ((d, .int .i64 (a - b)) :: e) st) : Is O (⟨some d, none, false, .bin .sub x y⟩ :: is) keep k Q e st := by
  rw [← wrap64 hw.1 hw.2] at h; exact is_sub hx hy h
theorem is_mulS {x y : Opd} {a b : Int} (hx : opdO e x = some (.int .i64 a)) (hy : opdO e y = some (.int .i64 b)) (hw : -9223372036854775808 ≤ a * b ∧ a * b < 9223372036854775808) (h : Is O is keep k Q ((d, .int .i64 (a * b)) :: e) st) : Is O (⟨some d, none, false, .bin .mul x y⟩ :: is) keep k Q e st := by
  rw [← wrap64 hw.1 hw.2] at h; exact is_mul hx hy h
theorem is_quoS {x y : Opd} {a b : Int} (hx : opdO e x = some (.int .i64 a)) (hy : opdO e y = some (.int .i64 b)) (hw : 0 ≤ a ∧ 0 < b ∧ a < 9223372036854775808) (h : Is O is keep k Q ((d, .int .i64 (a / b)) :: e) st) : Is O (⟨some d, none, false, .bin .quo x y⟩ :: is) keep k Q e st := by
  refine is_of (st' := st) (v := .int .i64 (a / b)) ?_ h
  simp only [evalPI, evalPO, opdO_some hx, opdO_some hy, binV, isSh, if_false, if_true, intBin, Bool.false_eq_true, Option.bind_some, ret1]
  rw [if_neg (by omega), Int.tdiv_eq_ediv_of_nonneg hw.1]
  have h1 : a / b ≤ a := Int.ediv_le_self b hw.1
  have h2 : 0 ≤ a / b := Int.ediv_nonneg hw.1 (by omega)
  rw [wrap64 (by omega) (by omega)]
  rfl
theorem is_remS {x y : Opd} {a b : Int} (hx : opdO e x = some (.int .i64 a)) (hy : opdO e y = some (.int .i64 b)) (hw : 0 ≤ a ∧ 0 < b) (h : Is O is keep k Q ((d, .int .i64 (a % b)) :: e) st) : Is O (⟨some d, none, false, .bin .rem x y⟩ :: is) keep k Q e st := by
  refine is_of (st' := st) (v := .int .i64 (a % b)) ?_ h
  simp only [evalPI, evalPO, opdO_some hx, opdO_some hy, binV, isSh, if_false, if_true, intBin, Bool.false_eq_true, Option.bind_some, ret1]
  rw [if_neg (by omega), Int.tmod_eq_emod_of_nonneg hw.1]
  rfl

/-- What splits: a test of integers. -/
theorem is_cmp {x y : Opd} {kd : IntKind} {a b : Int} {bop : BinOp} {p : Prop} [Decidable p] (hx : opdO e x = some (.int kd a)) (hy : opdO e y = some (.int kd b)) (hp : intBin bop kd a b = some (.bool (decide p))) (hs : isSh bop = false)
    (hT : p → Is O is keep k Q ((d, .bool true) :: e) st) (hF : ¬ p → Is O is keep k Q ((d, .bool false) :: e) st) : Is O (⟨some d, none, false, .bin bop x y⟩ :: is) keep k Q e st := by
  have hv : evalPI O e st (.bin bop x y) = some (.bool (decide p), st) := by
    simp only [evalPI, evalPO, opdO_some hx, opdO_some hy, binV, hs, if_false, if_true, Bool.false_eq_true, hp, Option.bind_some, ret1]
  by_cases q : p
  · rw [decide_eq_true q] at hv; exact is_of hv (hT q)
  · rw [decide_eq_false q] at hv; exact is_of hv (hF q)
theorem is_lss {x y : Opd} {kd : IntKind} {a b : Int} (hx : opdO e x = some (.int kd a)) (hy : opdO e y = some (.int kd b)) (hT : a < b → Is O is keep k Q ((d, .bool true) :: e) st) (hF : b ≤ a → Is O is keep k Q ((d, .bool false) :: e) st) : Is O (⟨some d, none, false, .bin .lss x y⟩ :: is) keep k Q e st :=
  is_cmp hx hy rfl rfl hT (fun q => hF (Int.not_lt.1 q))
theorem is_leq {x y : Opd} {kd : IntKind} {a b : Int} (hx : opdO e x = some (.int kd a)) (hy : opdO e y = some (.int kd b)) (hT : a ≤ b → Is O is keep k Q ((d, .bool true) :: e) st) (hF : b < a → Is O is keep k Q ((d, .bool false) :: e) st) : Is O (⟨some d, none, false, .bin .leq x y⟩ :: is) keep k Q e st :=
  is_cmp hx hy rfl rfl hT (fun q => hF (Int.not_le.1 q))
theorem is_gtr {x y : Opd} {kd : IntKind} {a b : Int} (hx : opdO e x = some (.int kd a)) (hy : opdO e y = some (.int kd b)) (hT : b < a → Is O is keep k Q ((d, .bool true) :: e) st) (hF : a ≤ b → Is O is keep k Q ((d, .bool false) :: e) st) : Is O (⟨some d, none, false, .bin .gtr x y⟩ :: is) keep k Q e st :=
  is_cmp hx hy rfl rfl hT (fun q => hF (Int.not_lt.1 q))
theorem is_geq {x y : Opd} {kd : IntKind} {a b : Int} (hx : opdO e x = some (.int kd a)) (hy : opdO e y = some (.int kd b)) (hT : b ≤ a → Is O is keep k Q ((d, .bool true) :: e) st) (hF : a < b → Is O is keep k Q ((d, .bool false) :: e) st) : Is O (⟨some d, none, false, .bin .geq x y⟩ :: is) keep k Q e st :=
  is_cmp hx hy rfl rfl hT (fun q => hF (Int.not_le.1 q))
theorem is_eql {x y : Opd} {kd : IntKind} {a b : Int} (hx : opdO e x = some (.int kd a)) (hy : opdO e y = some (.int kd b)) (hT : a = b → Is O is keep k Q ((d, .bool true) :: e) st) (hF : a ≠ b → Is O is keep k Q ((d, .bool false) :: e) st) : Is O (⟨some d, none, false, .bin .eql x y⟩ :: is) keep k Q e st :=
  is_cmp hx hy rfl rfl hT hF
theorem is_neq {x y : Opd} {kd : IntKind} {a b : Int} (hx : opdO e x = some (.int kd a)) (hy : opdO e y = some (.int kd b)) (hT : a ≠ b → Is O is keep k Q ((d, .bool true) :: e) st) (hF : a = b → Is O is keep k Q ((d, .bool false) :: e) st) : Is O (⟨some d, none, false, .bin .neq x y⟩ :: is) keep k Q e st :=
  is_cmp hx hy rfl rfl hT (fun q => hF (Decidable.byContradiction q))
/-- Strings. -/
theorem is_eqlS {x y : Opd} {a b : List UInt8} (hx : opdO e x = some (.str a)) (hy : opdO e y = some (.str b)) (hT : a = b → Is O is keep k Q ((d, .bool true) :: e) st) (hF : a ≠ b → Is O is keep k Q ((d, .bool false) :: e) st) : Is O (⟨some d, none, false, .bin .eql x y⟩ :: is) keep k Q e st := by
  have hv : evalPI O e st (.bin .eql x y) = some (.bool (decide (a = b)), st) := by
    simp only [evalPI, evalPO, opdO_some hx, opdO_some hy, binV, strBin, Option.bind_some, ret1]
  by_cases q : a = b
  · rw [decide_eq_true q] at hv; exact is_of hv (hT q)
  · rw [decide_eq_false q] at hv; exact is_of hv (hF q)
theorem is_neqS {x y : Opd} {a b : List UInt8} (hx : opdO e x = some (.str a)) (hy : opdO e y = some (.str b)) (hT : a ≠ b → Is O is keep k Q ((d, .bool true) :: e) st) (hF : a = b → Is O is keep k Q ((d, .bool false) :: e) st) : Is O (⟨some d, none, false, .bin .neq x y⟩ :: is) keep k Q e st := by
  have hv : evalPI O e st (.bin .neq x y) = some (.bool (decide (a ≠ b)), st) := by
    simp only [evalPI, evalPO, opdO_some hx, opdO_some hy, binV, strBin, Option.bind_some, ret1]
  by_cases q : a = b
  · rw [decide_eq_false (fun h => h q)] at hv; exact is_of hv (hF q)
  · rw [decide_eq_true q] at hv; exact is_of hv (hT q)
theorem is_cat {x y : Opd} {a b : List UInt8} (hx : opdO e x = some (.str a)) (hy : opdO e y = some (.str b)) (hl : a.length + b.length < 4611686018427387904) (h : Is O is keep k Q ((d, .str (a ++ b)) :: e) st) : Is O (⟨some d, none, false, .bin .add x y⟩ :: is) keep k Q e st :=
  is_of (st' := st) (by simp only [evalPI, evalPO, opdO_some hx, opdO_some hy, binV, strBin, if_pos hl, Option.bind_some, ret1]) h
/-- Any other operation on two values. -/
theorem is_bin {bop : BinOp} {x y : Opd} {a b v : AV} (hx : opdO e x = some a) (hy : opdO e y = some b) (hv : binV bop a b = some v) (h : Is O is keep k Q ((d, v) :: e) st) : Is O (⟨some d, none, false, .bin bop x y⟩ :: is) keep k Q e st :=
  is_of (v := v) (st' := st) (by simp only [evalPI, evalPO, opdO_some hx, opdO_some hy, hv, Option.bind_some, ret1]) h
/-- Equality of structs, and with nil. -/
theorem is_eqs {neg : Bool} {kind : Nat} {ks : List (Nat × Nat)} {x y : Opd} {a b : AV} {t u : Bool} (hx : opdO e x = some a) (hy : opdO e y = some b) (hv : eqV ks kind a b = some t) (hu : (match neg with | true => !t | false => t) = u) (h : Is O is keep k Q ((d, .bool u) :: e) st) :
    Is O (⟨some d, none, false, .eqs neg kind ks x y⟩ :: is) keep k Q e st :=
  is_of (v := .bool u) (st' := st) (by simp only [evalPI, evalPO, opdO_some hx, opdO_some hy, hv, Option.bind_some]; subst hu; cases neg <;> simp) h
theorem is_eqsB {neg : Bool} {kind : Nat} {ks : List (Nat × Nat)} {x y : Opd} {a b : AV} {p : Prop} [Decidable p] (hx : opdO e x = some a) (hy : opdO e y = some b) (hv : eqV ks kind a b = some (decide p))
    (hT : p → Is O is keep k Q ((d, .bool (!neg)) :: e) st) (hF : ¬ p → Is O is keep k Q ((d, .bool neg) :: e) st) :
    Is O (⟨some d, none, false, .eqs neg kind ks x y⟩ :: is) keep k Q e st := by
  by_cases q : p
  · refine is_eqs hx hy (t := true) (u := !neg) (by rw [hv, decide_eq_true q]) ?_ (hT q)
    cases neg <;> rfl
  · refine is_eqs hx hy (t := false) (u := neg) (by rw [hv, decide_eq_false q]) ?_ (hF q)
    cases neg <;> rfl

theorem is_not {x : Opd} {b c : Bool} (hx : opdO e x = some (.bool b)) (hc : (match b with | true => some false | false => some true) = some c) (h : Is O is keep k Q ((d, .bool c) :: e) st) : Is O (⟨some d, none, false, .un .not x⟩ :: is) keep k Q e st :=
  is_of (v := .bool c) (st' := st) (by simp only [evalPI, evalPO, opdO_some hx, unV, Option.bind_some, ret1]; cases b <;> simp at hc <;> simp [← hc]) h
theorem is_neg {x : Opd} {a : Int} (hx : opdO e x = some (.int .i64 a)) (hw : -9223372036854775808 < a ∧ a < 9223372036854775808) (h : Is O is keep k Q ((d, .int .i64 (0 - a)) :: e) st) : Is O (⟨some d, none, false, .un .neg x⟩ :: is) keep k Q e st :=
  is_of (v := .int .i64 (0 - a)) (st' := st) (by simp only [evalPI, evalPO, opdO_some hx, unV, Option.bind_some, ret1]; rw [wrap64 (by omega) (by omega)]) h
theorem is_cint {x : Opd} {kd kd' : IntKind} {a : Int} (hx : opdO e x = some (.int kd' a)) (h : Is O is keep k Q ((d, .int kd (kd.wrap a)) :: e) st) : Is O (⟨some d, none, false, .cint kd x⟩ :: is) keep k Q e st :=
  is_of (st' := st) (by simp only [evalPI, evalPO, opdO_some hx, cintV, Option.bind_some, ret1]) h
theorem is_cintW {x : Opd} {kd kd' : IntKind} {a : Int} (hx : opdO e x = some (.int kd' a)) (hw : kd.wrap a = a) (h : Is O is keep k Q ((d, .int kd a) :: e) st) : Is O (⟨some d, none, false, .cint kd x⟩ :: is) keep k Q e st :=
  is_of (v := .int kd a) (st' := st) (by simp only [evalPI, evalPO, opdO_some hx, cintV, Option.bind_some, ret1, hw]) h
theorem is_cstr {x : Opd} {a : List UInt8} (hx : opdO e x = some (.str a)) (h : Is O is keep k Q ((d, .str a) :: e) st) : Is O (⟨some d, none, false, .cstr x⟩ :: is) keep k Q e st :=
  is_of (st' := st) (by simp only [evalPI, evalPO, opdO_some hx, cstrV, Option.bind_some, ret1]) h
theorem is_b2s {x : Opd} {a v : AV} (hx : opdO e x = some a) (hv : b2sV st a = some v) (h : Is O is keep k Q ((d, v) :: e) st) : Is O (⟨some d, none, false, .b2s x⟩ :: is) keep k Q e st :=
  is_of (v := v) (st' := st) (by simp only [evalPI, evalPO, opdO_some hx, hv, Option.bind_some, ret1]) h
theorem is_mkf {fn : Fn} {f c : List Opd} {vf vc : List AV} (hf : getsO e f = some vf) (hc : getsO e c = some vc) (h : Is O is keep k Q ((d, .func fn vf vc) :: e) st) : Is O (⟨some d, none, false, .mkf fn f c⟩ :: is) keep k Q e st :=
  is_of (st' := st) (by simp only [evalPI, evalPO, getsO_some hf, getsO_some hc]) h
theorem is_nilck {x : Opd} {a v : AV} (hx : opdO e x = some a) (hv : nilckV a = some v) (h : Is O is keep k Q ((d, v) :: e) st) : Is O (⟨some d, none, false, .nilck x⟩ :: is) keep k Q e st :=
  is_of (v := v) (st' := st) (by simp only [evalPI, evalPO, opdO_some hx, hv, Option.bind_some, ret1]) h
theorem is_nilckn {x : Opd} {a v : AV} (hx : opdO e x = some a) (hv : nilckV a = some v) (h : Is O is keep k Q e st) : Is O (⟨none, none, false, .nilck x⟩ :: is) keep k Q e st :=
  is_of (od := none) (v := v) (st' := st) (by simp only [evalPI, evalPO, opdO_some hx, hv, Option.bind_some, ret1]) h
theorem is_mnx {mx : Bool} {x y : Opd} {kd : IntKind} {a b : Int} (hx : opdO e x = some (.int kd a)) (hy : opdO e y = some (.int kd b)) (h : Is O is keep k Q ((d, .int kd (if mx = true then max a b else min a b)) :: e) st) : Is O (⟨some d, none, false, .mnx mx x y⟩ :: is) keep k Q e st := by
  refine is_of (v := .int kd (if mx = true then max a b else min a b)) (st' := st) ?_ h
  simp only [evalPI, evalPO, opdO_some hx, opdO_some hy, mnxV, if_true, Option.bind_some, ret1]
  cases mx
  · have : (if b < a then b else a) = min a b := by rw [Int.min_def]; split <;> split <;> omega
    simp [this]
  · have : (if a < b then b else a) = max a b := by rw [Int.max_def]; split <;> split <;> omega
    simp [this]
theorem is_ext {x : Opd} {i : Nat} {vs : List AV} {v : AV} (hx : opdO e x = some (.tup vs)) (hv : vs[i]? = some v) (h : Is O is keep k Q ((d, v) :: e) st) : Is O (⟨some d, none, false, .ext x i⟩ :: is) keep k Q e st :=
  is_of (v := v) (st' := st) (by simp only [evalPI, evalPO, opdO_some hx, extV, hv, Option.bind_some, ret1]) h

/-- Lengths. -/
theorem is_lenS {x : Opd} {a : List UInt8} (hx : opdO e x = some (.str a)) (h : Is O is keep k Q ((d, .int .i64 a.length) :: e) st) : Is O (⟨some d, none, false, .len 0 x⟩ :: is) keep k Q e st :=
  is_of (st' := st) (by simp only [evalPI, evalPO, opdO_some hx, lenOf, Option.bind_some]) h
theorem is_lenL {x : Opd} {a : List AV} (hx : opdO e x = some (.lit a)) (h : Is O is keep k Q ((d, .int .i64 a.length) :: e) st) : Is O (⟨some d, none, false, .len 1 x⟩ :: is) keep k Q e st :=
  is_of (st' := st) (by simp only [evalPI, evalPO, opdO_some hx, lenOf, Option.bind_some]) h
theorem is_lenM {α : Type} {f : α → AV} {l : List α} {x : Opd} (hx : opdO e x = some (.lit (l.map f))) (h : Is O is keep k Q ((d, .int .i64 l.length) :: e) st) : Is O (⟨some d, none, false, .len 1 x⟩ :: is) keep k Q e st :=
  is_lenL hx (by rw [List.length_map]; exact h)
theorem is_lenN {x : Opd} (hx : opdO e x = some .nils) (h : Is O is keep k Q ((d, .int .i64 0) :: e) st) : Is O (⟨some d, none, false, .len 1 x⟩ :: is) keep k Q e st :=
  is_of (st' := st) (by simp only [evalPI, evalPO, opdO_some hx, lenOf, Option.bind_some]; rfl) h
theorem is_lenR {x : Opd} {lv ix ver s n : Nat} (hx : opdO e x = some (.ref lv ix ver s n)) (h : Is O is keep k Q ((d, .int .i64 n) :: e) st) : Is O (⟨some d, none, false, .len 1 x⟩ :: is) keep k Q e st :=
  is_of (st' := st) (by simp only [evalPI, evalPO, opdO_some hx, lenOf, Option.bind_some]) h

/-- Parts of values. -/
theorem is_fld {agg : Bool} {off n : Nat} {x : Opd} {cs : List AV} {v : AV} (hx : opdO e x = some (.agg cs)) (hv : cs[off]? = some v) (h : Is O is keep k Q ((d, v) :: e) st) : Is O (⟨some d, none, false, .fld false off n x⟩ :: is) keep k Q e st :=
  is_of (v := v) (st' := st) (by simp only [evalPI, evalPO, opdO_some hx, fldV, partOf, AV.isAny, if_false, Bool.false_eq_true, AV.cells, hv, Option.bind_some, ret1]) h
theorem is_fldA {off n : Nat} {x : Opd} {cs vs : List AV} (hx : opdO e x = some (.agg cs)) (hl : off + n ≤ cs.length) (hv : forceL ((cs.drop off).take n) = some vs) (h : Is O is keep k Q ((d, .agg vs) :: e) st) : Is O (⟨some d, none, false, .fld true off n x⟩ :: is) keep k Q e st :=
  is_of (v := .agg vs) (st' := st) (by simp only [evalPI, evalPO, opdO_some hx, fldV, partOf, AV.isAny, if_false, if_true, Bool.false_eq_true, AV.cells, if_pos hl, forceL_some hv, Option.bind_some, ret1]) h
theorem is_build {z : List AV} {ps : List (Nat × Nat × Opd)} {qs : List (Nat × Nat × AV)} {cs vs : List AV} (hq : partsV e ps = qs) (hf : fillV z qs = some cs) (hv : forceL cs = some vs) (h : Is O is keep k Q ((d, .agg vs) :: e) st) : Is O (⟨some d, none, false, .build z ps⟩ :: is) keep k Q e st :=
  is_of (v := .agg vs) (st' := st) (by simp only [evalPI, evalPO, hq, hf, forceL_some hv, Option.bind_some]) h
theorem is_slcS {x : Opd} {lo hi : Option Opd} {s : List UInt8} {l r : Nat} (hx : opdO e x = some (.str s)) (hh : boundV s.length s.length (oget e hi) = some r) (hl : boundV r 0 (oget e lo) = some l) (h : Is O is keep k Q ((d, .str ((s.drop l).take (r - l))) :: e) st) : Is O (⟨some d, none, false, .slcS x lo hi⟩ :: is) keep k Q e st :=
  is_of (st' := st) (by simp only [evalPI, evalPO, opdO_some hx, slcSV, hh, hl, Option.bind_some, ret1]) h
theorem is_slcS_hi {x y : Opd} {s : List UInt8} {n : Int} (hx : opdO e x = some (.str s)) (hy : opdO e y = some (.int .i64 n)) (hn : 0 ≤ n ∧ n ≤ s.length) (h : Is O is keep k Q ((d, .str (s.take n.toNat)) :: e) st) : Is O (⟨some d, none, false, .slcS x none (some y)⟩ :: is) keep k Q e st := by
  refine is_slcS (r := n.toNat) (l := 0) hx ?_ rfl (by simpa using h)
  simp only [oget, opdO_some hy, boundV, if_pos hn]
theorem is_slcS_lo {x y : Opd} {s : List UInt8} {n : Int} (hx : opdO e x = some (.str s)) (hy : opdO e y = some (.int .i64 n)) (hn : 0 ≤ n ∧ n ≤ s.length) (h : Is O is keep k Q ((d, .str (s.drop n.toNat)) :: e) st) : Is O (⟨some d, none, false, .slcS x (some y) none⟩ :: is) keep k Q e st := by
  refine is_slcS (r := s.length) (l := n.toNat) hx rfl ?_ ?_
  · simp only [oget, opdO_some hy, boundV, if_pos hn]
  · rw [List.take_of_length_le (by simp)]; exact h
theorem is_slcS_lh {x y z : Opd} {s : List UInt8} {n m : Int} (hx : opdO e x = some (.str s)) (hy : opdO e y = some (.int .i64 n)) (hz : opdO e z = some (.int .i64 m)) (hn : 0 ≤ n ∧ n ≤ m ∧ m ≤ s.length) (h : Is O is keep k Q ((d, .str ((s.drop n.toNat).take (m - n).toNat)) :: e) st) : Is O (⟨some d, none, false, .slcS x (some y) (some z)⟩ :: is) keep k Q e st := by
  refine is_slcS (r := m.toNat) (l := n.toNat) hx ?_ ?_ ?_
  · simp only [oget, opdO_some hz, boundV, if_pos (show 0 ≤ m ∧ m ≤ s.length by omega)]
  · simp only [oget, opdO_some hy, boundV, if_pos (show 0 ≤ n ∧ n ≤ (m.toNat : Int) by omega)]
  · rw [show m.toNat - n.toNat = (m - n).toNat by omega]; exact h
theorem is_ixStr {x i : Opd} {s : List UInt8} {n : Int} {b : UInt8} (hx : opdO e x = some (.str s)) (hi : opdO e i = some (.int .i64 n)) (hn : 0 ≤ n ∧ n < s.length) (hb : s[n.toNat]? = some b) (h : Is O is keep k Q ((d, .int .u8 b.toNat) :: e) st) : Is O (⟨some d, none, false, .ixStr x i⟩ :: is) keep k Q e st :=
  is_of (st' := st) (by simp only [evalPI, evalPO, opdO_some hx, opdO_some hi, ixStrV, indexOf, if_pos hn, hb, Option.bind_some, ret1]) h

/-- An immutable slice. -/
theorem is_ixL {w : Nat} {x i : Opd} {es : List AV} {n : Int} {v : AV} (hx : opdO e x = some (.lit es)) (hi : opdO e i = some (.int .i64 n)) (hn : 0 ≤ n ∧ n < es.length) (hv : es[n.toNat]? = some v) (hw : v.wide = some w) (h : Is O is keep k Q ((d, .lptr v 0) :: e) st) : Is O (⟨some d, none, false, .ixS w x i⟩ :: is) keep k Q e st :=
  is_of (st' := st) (by simp only [evalPI, evalPO, opdO_some hx, opdO_some hi, ixSV, indexOf, if_pos hn, hv, if_pos hw, Option.bind_some, ret1]) h
theorem is_ldl {n : Nat} {a : Opd} {x : AV} {o : Nat} {v : AV} {agg : Bool} (ha : opdO e a = some (.lptr x o)) (hv : partOf x agg o n = some v) (h : Is O is keep k Q ((d, v) :: e) st) : Is O (⟨some d, none, false, .ld agg n a⟩ :: is) keep k Q e st :=
  is_of (v := v) (st' := st) (by simp only [evalPI, evalPO, opdO_some ha, loadP, hv, Option.bind_some, ret1]) h
theorem is_fadr {off : Nat} {x : Opd} {a v : AV} (hx : opdO e x = some a) (hv : fadrV off a = some v) (h : Is O is keep k Q ((d, v) :: e) st) : Is O (⟨some d, none, false, .fadr off x⟩ :: is) keep k Q e st :=
  is_of (v := v) (st' := st) (by simp only [evalPI, evalPO, opdO_some hx, hv, Option.bind_some, ret1]) h
theorem is_ixA {len w : Nat} {x i : Opd} {a b v : AV} (hx : opdO e x = some a) (hi : opdO e i = some b) (hv : ixAV len w b a = some v) (h : Is O is keep k Q ((d, v) :: e) st) : Is O (⟨some d, none, false, .ixA len w x i⟩ :: is) keep k Q e st :=
  is_of (v := v) (st' := st) (by simp only [evalPI, evalPO, opdO_some hx, opdO_some hi, hv, Option.bind_some, ret1]) h

/-- Slices of slices. -/
theorem is_slcL {w : Nat} {x : Opd} {lo hi : Option Opd} {es : List AV} {l r : Nat} (hx : opdO e x = some (.lit es)) (hh : boundV es.length es.length (oget e hi) = some r) (hl : boundV r 0 (oget e lo) = some l) (hw : sameW w es = true) (h : Is O is keep k Q ((d, .lit ((es.drop l).take (r - l))) :: e) st) : Is O (⟨some d, none, false, .slc w x lo hi⟩ :: is) keep k Q e st :=
  is_of (st' := st) (by simp only [evalPI, evalPO, opdO_some hx, slcV, hh, hl, if_pos hw, Option.bind_some, ret1]) h
theorem is_slcL_hi {w : Nat} {x y : Opd} {es : List AV} {n : Int} (hx : opdO e x = some (.lit es)) (hy : opdO e y = some (.int .i64 n)) (hn : 0 ≤ n ∧ n ≤ es.length) (hw : sameW w es = true) (h : Is O is keep k Q ((d, .lit (es.take n.toNat)) :: e) st) : Is O (⟨some d, none, false, .slc w x none (some y)⟩ :: is) keep k Q e st := by
  refine is_slcL (r := n.toNat) (l := 0) hx ?_ rfl hw (by simpa using h)
  simp only [oget, opdO_some hy, boundV, if_pos hn]
theorem is_slcL_lo {w : Nat} {x y : Opd} {es : List AV} {n : Int} (hx : opdO e x = some (.lit es)) (hy : opdO e y = some (.int .i64 n)) (hn : 0 ≤ n ∧ n ≤ es.length) (hw : sameW w es = true) (h : Is O is keep k Q ((d, .lit (es.drop n.toNat)) :: e) st) : Is O (⟨some d, none, false, .slc w x (some y) none⟩ :: is) keep k Q e st := by
  refine is_slcL (r := es.length) (l := n.toNat) hx rfl ?_ hw ?_
  · simp only [oget, opdO_some hy, boundV, if_pos hn]
  · rw [List.take_of_length_le (by simp)]; exact h
theorem is_slcR_hi {w : Nat} {x y : Opd} {lv ix ver s m : Nat} {n : Int} (hx : opdO e x = some (.ref lv ix ver s m)) (hy : opdO e y = some (.int .i64 n)) (hn : 0 ≤ n ∧ n ≤ m) (hw : wIs w ver (st.get lv ix) = true) (h : Is O is keep k Q ((d, .ref lv ix ver s n.toNat) :: e) st) : Is O (⟨some d, none, false, .slc w x none (some y)⟩ :: is) keep k Q e st :=
  is_of (st' := st) (by simp only [evalPI, evalPO, opdO_some hx, slcV, oget, opdO_some hy, boundV, if_pos hn, if_pos hw, Option.bind_some, ret1]; simp) h
theorem is_slcR_lo {w : Nat} {x y : Opd} {lv ix ver s m : Nat} {n : Int} (hx : opdO e x = some (.ref lv ix ver s m)) (hy : opdO e y = some (.int .i64 n)) (hn : 0 ≤ n ∧ n ≤ m) (hw : wIs w ver (st.get lv ix) = true) (h : Is O is keep k Q ((d, .ref lv ix ver (s + n.toNat) (m - n.toNat)) :: e) st) : Is O (⟨some d, none, false, .slc w x (some y) none⟩ :: is) keep k Q e st :=
  is_of (st' := st) (by simp only [evalPI, evalPO, opdO_some hx, slcV, oget, opdO_some hy, boundV, if_pos hn, if_pos hw, Option.bind_some, ret1]) h

/-- A literal of a slice that is handed on as immutable, of values that hold no memory of the own region. -/
theorem is_bslF {w : Nat} {z : List AV} {ps : List (Nat × Opd)} {qs : List (Nat × AV)} {es : List AV} {r : AV × St} (hq : partsE e ps = qs) (hf : fillE w z qs = some es) (hb : bslK false w st es = some r) (h : Is O is keep k Q ((d, r.1) :: e) r.2) : Is O (⟨some d, none, false, .bslice false w z ps⟩ :: is) keep k Q e st :=
  is_of (v := r.1) (st' := r.2) (by simp only [evalPI, evalPO, hq, hf, Option.bind_some]; exact hb) h
end

/-! ### Memory of the current region -/

def forceV : AV → Option AV
  | .agg cs => match forceL cs with
    | some r => some (.agg r)
    | none => none
  | v => some v

theorem forceV_some {v r : AV} (h : forceV v = some r) : v = r := by
  unfold forceV at h
  split at h
  · split at h
    · rename_i q hq
      simp only [Option.some.injEq] at h
      rw [← h, forceL_some hq]
    · simp at h
  · simpa using h

section
variable {O : Orc} {k : List Fr} {Q : Post} {e : Env} {A : List (Bool × List Blk)} {L L' : List Blk} {keep : List Nat} {is : List PI} {d : Nat}

theorem is_box {x : Opd} {v : AV} {w : Nat} (hx : opdO e x = some v) (hw : v.wide = some w) (hL : forceB (L ++ [Blk.arr w 0 [v]]) = some L') (h : Is O is keep k Q ((d, .ptr A.length L.length 0 0 0) :: e) ⟨A, false, L'⟩) : Is O (⟨some d, none, false, .box x⟩ :: is) keep k Q e ⟨A, false, L⟩ := by
  rw [← forceB_some hL] at h
  exact is_of (v := .ptr A.length L.length 0 0 0) (st' := ⟨A, false, L ++ [Blk.arr w 0 [v]]⟩) (by simp only [evalPI, evalPO, opdO_some hx, hw, Option.bind_some, St.new_cur, newPtrK]) h
theorem is_boxnil {w : Nat} (hL : forceB (L ++ [Blk.arr w 0 []] ++ [Blk.arr 1 0 [.ref A.length L.length 0 0 0]]) = some L') (h : Is O is keep k Q ((d, .ptr A.length (L.length + 1) 0 0 0) :: e) ⟨A, false, L'⟩) : Is O (⟨some d, none, false, .boxnil w⟩ :: is) keep k Q e ⟨A, false, L⟩ := by
  rw [← forceB_some hL] at h
  refine is_of (v := .ptr A.length (L.length + 1) 0 0 0) (st' := ⟨A, false, L ++ [Blk.arr w 0 []] ++ [Blk.arr 1 0 [.ref A.length L.length 0 0 0]]⟩) ?_ h
  simp only [evalPI, evalPO, Option.bind_some, St.new_cur, newPtrK, boxNilK]; simp
theorem is_onil {w : Nat} (hL : forceB (L ++ [Blk.arr w 0 []]) = some L') (h : Is O is keep k Q ((d, .ref A.length L.length 0 0 0) :: e) ⟨A, false, L'⟩) : Is O (⟨some d, none, false, .onil w⟩ :: is) keep k Q e ⟨A, false, L⟩ := by
  rw [← forceB_some hL] at h
  exact is_of (v := .ref A.length L.length 0 0 0) (st' := ⟨A, false, L ++ [Blk.arr w 0 []]⟩) (by simp only [evalPI, evalPO, Option.bind_some, St.new_cur, newRefK]) h
theorem is_mkslice {w bytes : Nat} {z : AV} {l c : Opd} {n : Int} (hl : opdO e l = some (.int .i64 n)) (hc : opdO e c = some (.int .i64 n)) (hn : 0 ≤ n ∧ n < 4294967296) (hb : bytes ≤ 4096) (hL : forceB (L ++ [Blk.arr w 0 (List.replicate n.toNat z)]) = some L') (h : Is O is keep k Q ((d, .ref A.length L.length 0 0 n.toNat) :: e) ⟨A, false, L'⟩) : Is O (⟨some d, none, false, .mkslice w bytes z l c⟩ :: is) keep k Q e ⟨A, false, L⟩ := by
  rw [← forceB_some hL] at h
  exact is_of (v := .ref A.length L.length 0 0 n.toNat) (st' := ⟨A, false, L ++ [Blk.arr w 0 (List.replicate n.toNat z)]⟩) (by simp only [evalPI, evalPO, opdO_some hl, opdO_some hc, mkslV, if_pos (show 0 ≤ n ∧ n ≤ n ∧ n < 4294967296 ∧ bytes ≤ 4096 by omega), St.new_cur, Option.bind_some, newRefK]) h
theorem is_mkmap (hL : forceB (L ++ [Blk.map []]) = some L') (h : Is O is keep k Q ((d, .map A.length L.length) :: e) ⟨A, false, L'⟩) : Is O (⟨some d, none, false, .mkmap⟩ :: is) keep k Q e ⟨A, false, L⟩ := by
  rw [← forceB_some hL] at h
  exact is_of (v := .map A.length L.length) (st' := ⟨A, false, L ++ [Blk.map []]⟩) (by simp only [evalPI, evalPO, Option.bind_some, St.new_cur, newMapK]) h
theorem is_bslT {w : Nat} {z : List AV} {ps : List (Nat × Opd)} {qs : List (Nat × AV)} {es es' : List AV} (hq : partsE e ps = qs) (hf : fillE w z qs = some es) (he : forceL es = some es') (hL : forceB (L ++ [Blk.arr w 0 es']) = some L') (h : Is O is keep k Q ((d, .ref A.length L.length 0 0 es'.length) :: e) ⟨A, false, L'⟩) : Is O (⟨some d, none, false, .bslice true w z ps⟩ :: is) keep k Q e ⟨A, false, L⟩ := by
  rw [← forceB_some hL] at h
  rw [← forceL_some he] at h
  exact is_of (v := .ref A.length L.length 0 0 es.length) (st' := ⟨A, false, L ++ [Blk.arr w 0 es]⟩) (by simp only [evalPI, evalPO, hq, hf, Option.bind_some, bslK, if_true, St.new_cur, newRefK]) h

/-- A load. -/
theorem is_ld {st : St} {agg : Bool} {n : Nat} {a : Opd} {lv ix ver i o w : Nat} {es : List AV} {x v : AV} (ha : opdO e a = some (.ptr lv ix ver i o)) (hg : st.get lv ix = some (Blk.arr w ver es)) (hx : es[i]? = some x) (hv : partOf x agg o n = some v)
    (h : Is O is keep k Q ((d, v) :: e) st) : Is O (⟨some d, none, false, .ld agg n a⟩ :: is) keep k Q e st :=
  is_of (v := v) (st' := st) (by simp only [evalPI, evalPO, opdO_some ha, loadP, hg, loadB, if_true, hx, hv, Option.bind_some, ret1]) h
theorem is_ldc {agg : Bool} {n : Nat} {a : Opd} {ix ver i o w : Nat} {es : List AV} {x v : AV} (ha : opdO e a = some (.ptr A.length ix ver i o)) (hg : L[ix]? = some (Blk.arr w ver es)) (hx : es[i]? = some x) (hv : partOf x agg o n = some v)
    (h : Is O is keep k Q ((d, v) :: e) ⟨A, false, L⟩) : Is O (⟨some d, none, false, .ld agg n a⟩ :: is) keep k Q e ⟨A, false, L⟩ :=
  is_ld ha (by rw [St.get_cur, hg]; rfl) hx hv h
/-- An address in an owned slice. -/
theorem is_ixR {st : St} {w : Nat} {x i : Opd} {lv ix ver s m : Nat} {n : Int} (hx : opdO e x = some (.ref lv ix ver s m)) (hi : opdO e i = some (.int .i64 n)) (hn : 0 ≤ n ∧ n < m) (hw : wIs w ver (st.get lv ix) = true) (h : Is O is keep k Q ((d, .ptr lv ix ver (s + n.toNat) 0) :: e) st) : Is O (⟨some d, none, false, .ixS w x i⟩ :: is) keep k Q e st :=
  is_of (st' := st) (by simp only [evalPI, evalPO, opdO_some hx, opdO_some hi, ixSV, indexOf, if_pos hn, if_pos hw, Option.bind_some, ret1]) h
theorem is_ixRc {w : Nat} {x i : Opd} {ix ver s m : Nat} {n : Int} {es : List AV} (hx : opdO e x = some (.ref A.length ix ver s m)) (hi : opdO e i = some (.int .i64 n)) (hn : 0 ≤ n ∧ n < m) (hg : L[ix]? = some (Blk.arr w ver es)) (h : Is O is keep k Q ((d, .ptr A.length ix ver (s + n.toNat) 0) :: e) ⟨A, false, L⟩) : Is O (⟨some d, none, false, .ixS w x i⟩ :: is) keep k Q e ⟨A, false, L⟩ :=
  is_ixR hx hi hn (by rw [St.get_cur, hg]; simp [wIs, vis]) h
/-- A store into the current region, of a value that is put there as it is. -/
theorem is_stc {n : Nat} {a x : Opd} {ix ver i o w : Nat} {es : List AV} {v v' y : AV} (ha : opdO e a = some (.ptr A.length ix ver i o)) (hx : opdO e x = some v) (hg : L[ix]? = some (Blk.arr w ver es)) (hy : es[i]? = some y)
    (hs : sealV deep (A.length + 1) ⟨A, false, L⟩ v = some (v, ⟨A, false, L⟩)) (hv : (elemSet w y o n v).bind forceV = some v') (hL : forceB (L.set ix (Blk.arr w ver (es.set i v'))) = some L') (h : Is O is keep k Q e ⟨A, false, L'⟩) : Is O (⟨none, none, false, .st n a x⟩ :: is) keep k Q e ⟨A, false, L⟩ := by
  have hlt : ix < L.length := by
    rw [List.getElem?_eq_some_iff] at hg; exact hg.1
  rw [← forceB_some hL] at h
  have hv' : elemSet w y o n v = some v' := by
    simp only [Option.bind_eq_some_iff] at hv
    obtain ⟨u, h1, h2⟩ := hv
    rw [h1, forceV_some h2]
  refine is_of (od := none) (v := .undef) (st' := ⟨A, false, L.set ix (Blk.arr w ver (es.set i v'))⟩) ?_ h
  simp only [evalPI, evalPO, opdO_some ha, opdO_some hx, storeP, hs, Option.bind_some, storeK, St.get_cur, hg, vis, storeB, if_true, hy, hv', St.put, if_false, Bool.false_eq_true, if_pos hlt, retU]
/-- The same, the blocks as they come. -/
theorem is_stn {n : Nat} {a x : Opd} {ix ver i o w : Nat} {es : List AV} {v v' y : AV} (hg : L[ix]? = some (Blk.arr w ver es)) (ha : opdO e a = some (.ptr A.length ix ver i o)) (hx : opdO e x = some v) (hy : es[i]? = some y)
    (hs : sealV deep (A.length + 1) ⟨A, false, L⟩ v = some (v, ⟨A, false, L⟩)) (hv : (elemSet w y o n v).bind forceV = some v') (h : Is O is keep k Q e ⟨A, false, L.set ix (Blk.arr w ver (es.set i v'))⟩) : Is O (⟨none, none, false, .st n a x⟩ :: is) keep k Q e ⟨A, false, L⟩ := by
  have hlt : ix < L.length := by
    rw [List.getElem?_eq_some_iff] at hg; exact hg.1
  have hv' : elemSet w y o n v = some v' := by
    simp only [Option.bind_eq_some_iff] at hv
    obtain ⟨u, h1, h2⟩ := hv
    rw [h1, forceV_some h2]
  refine is_of (od := none) (v := .undef) (st' := ⟨A, false, L.set ix (Blk.arr w ver (es.set i v'))⟩) ?_ h
  simp only [evalPI, evalPO, opdO_some ha, opdO_some hx, storeP, hs, Option.bind_some, storeK, St.get_cur, hg, vis, storeB, if_true, hy, hv', St.put, if_false, Bool.false_eq_true, if_pos hlt, retU]
/-- A store into a box of the current region. -/
theorem is_stb {n : Nat} {a x : Opd} {ix ver o w : Nat} {v v' y : AV} (ha : opdO e a = some (.ptr A.length ix ver 0 o)) (hx : opdO e x = some v) (hg : L[ix]? = some (Blk.arr w ver [y]))
    (hs : sealV deep (A.length + 1) ⟨A, false, L⟩ v = some (v, ⟨A, false, L⟩)) (hv : (elemSet w y o n v).bind forceV = some v') (hL : forceB (L.set ix (Blk.arr w ver [v'])) = some L') (h : Is O is keep k Q e ⟨A, false, L'⟩) : Is O (⟨none, none, false, .st n a x⟩ :: is) keep k Q e ⟨A, false, L⟩ :=
  is_stc ha hx hg rfl hs hv hL h
/-- append to an owned slice of the current region. -/
theorem is_appc {w bytes : Nat} {s x : Opd} {ix ver n : Nat} {es ys : List AV} {vx : AV} (hs : opdO e s = some (.ref A.length ix ver 0 n)) (hx : opdO e x = some vx) (hg : L[ix]? = some (Blk.arr w ver es)) (hy : elems ⟨A, false, L⟩ vx = some ys) (hb : n = es.length)
    (hl : es.length + ys.length < 4294967296) (hw : bytes ≤ 4096) (hsm : sameW w ys = true) (hm : mapSt (sealV deep (A.length + 1)) ⟨A, false, L⟩ ys = some (ys, ⟨A, false, L⟩))
    (hL : forceB (L.set ix (Blk.arr w (ver + 1) (es ++ ys))) = some L') (h : Is O is keep k Q ((d, .ref A.length ix (ver + 1) 0 (n + ys.length)) :: e) ⟨A, false, L'⟩) : Is O (⟨some d, none, false, .app w bytes s x⟩ :: is) keep k Q e ⟨A, false, L⟩ := by
  have hlt : ix < L.length := by
    rw [List.getElem?_eq_some_iff] at hg; exact hg.1
  rw [← forceB_some hL] at h
  subst hb
  refine is_of (v := .ref A.length ix (ver + 1) 0 (es.length + ys.length)) (st' := ⟨A, false, L.set ix (Blk.arr w (ver + 1) (es ++ ys))⟩) ?_ h
  simp only [evalPI, evalPO, opdO_some hs, opdO_some hx, hy, Option.bind_some, appendV, if_pos hsm, hm, appK, St.get_cur, hg, vis, appB, true_and, if_pos (show 0 + es.length ≤ es.length ∧ es.length + ys.length < 4294967296 ∧ bytes ≤ 4096 by omega), St.put, if_true, if_false, Bool.false_eq_true, if_pos hlt, List.drop_zero, List.take_length]
/-- append of one value that holds no memory of the region. -/
theorem is_app1 {w bytes : Nat} {s x : Opd} {ix ver n : Nat} {es : List AV} {y : AV} (hs : opdO e s = some (.ref A.length ix ver 0 n)) (hx : opdO e x = some (.lit [y])) (hg : L[ix]? = some (Blk.arr w ver es)) (hb : n = es.length)
    (hl : es.length + 1 < 4294967296) (hw : bytes ≤ 4096) (hsm : y.wide = some w) (hm : sealV deep (A.length + 1) ⟨A, false, L⟩ y = some (y, ⟨A, false, L⟩))
    (hL : forceB (L.set ix (Blk.arr w (ver + 1) (es ++ [y]))) = some L') (h : Is O is keep k Q ((d, .ref A.length ix (ver + 1) 0 (n + 1)) :: e) ⟨A, false, L'⟩) : Is O (⟨some d, none, false, .app w bytes s x⟩ :: is) keep k Q e ⟨A, false, L⟩ :=
  is_appc (ys := [y]) hs hx hg rfl hb hl hw (by simp [sameW, hsm]) (by simp only [mapSt, hm, Option.bind_some, consK]) hL h

/-! ### Calls -/

theorem is_call {T : Tab} {st : St} {f : Opd} {args : List Opd} {g : FuncId} {first cap vs ws : List AV} {P : AV → St → Prop} (hf : opdO e f = some (.func (.func g) first cap)) (ha : getsO e args = some vs) (hw : forceL (weaks (first ++ vs ++ cap)) = some ws)
    (hc : Sp T g ws st P) (h : ∀ v st', P v st' → Is (S T) is keep k Q ((d, v) :: e) st') : Is (S T) (⟨some d, none, false, .call .norm f args⟩ :: is) keep k Q e st := by
  obtain ⟨v, st', h1, h2⟩ := hc
  refine is_of (v := v) (st' := st') ?_ (h v st' h2)
  simp only [evalPI, opdO_some hf, getsO_some ha, callV, forceL_some hw, callM, h1]
theorem is_callE {T : Tab} {st st' : St} {f : Opd} {args : List Opd} {g : FuncId} {first cap vs ws : List AV} {v : AV} (hf : opdO e f = some (.func (.func g) first cap)) (ha : getsO e args = some vs) (hw : forceL (weaks (first ++ vs ++ cap)) = some ws)
    (hc : S T g ws st = some (v, st')) (h : Is (S T) is keep k Q ((d, v) :: e) st') : Is (S T) (⟨some d, none, false, .call .norm f args⟩ :: is) keep k Q e st := by
  refine is_of (v := v) (st' := st') ?_ h
  simp only [evalPI, opdO_some hf, getsO_some ha, callV, forceL_some hw, callM, hc]
theorem is_callEn {T : Tab} {st st' : St} {f : Opd} {args : List Opd} {g : FuncId} {first cap vs ws : List AV} {v : AV} (hf : opdO e f = some (.func (.func g) first cap)) (ha : getsO e args = some vs) (hw : forceL (weaks (first ++ vs ++ cap)) = some ws)
    (hc : S T g ws st = some (v, st')) (h : Is (S T) is keep k Q e st') : Is (S T) (⟨none, none, false, .call .norm f args⟩ :: is) keep k Q e st := by
  refine is_of (od := none) (v := v) (st' := st') ?_ h
  simp only [evalPI, opdO_some hf, getsO_some ha, callV, forceL_some hw, callM, hc]
theorem is_callP {T : Tab} {st : St} {f : Opd} {args : List Opd} {g : FuncId} {first cap vs ws : List AV} {v : AV} {st' : St} (hf : opdO e f = some (.func (.func g) first cap)) (ha : getsO e args = some vs) (hw : forceL (weaks (first ++ vs ++ cap)) = some ws)
    (hc : S T g ws st.allRo = some (v, st')) (h : Is (S T) is keep k Q ((d, v) :: e) st) : Is (S T) (⟨some d, none, false, .call .pure f args⟩ :: is) keep k Q e st := by
  refine is_of (v := v) (st' := st) ?_ h
  simp only [evalPI, opdO_some hf, getsO_some ha, callV, forceL_some hw, callM, hc, Option.bind_some, pureK]
theorem is_callO {T : Tab} {st : St} {f : Opd} {args : List Opd} {g : FuncId} {first cap vs ws : List AV} {v : AV} {st' st2 : St} (hf : opdO e f = some (.func (.func g) first cap)) (ha : getsO e args = some vs) (hw : forceL (weaks (first ++ vs ++ cap)) = some ws)
    (hc : S T g ws { st with ro := true } = some (v, st')) (ho : ownK st (v, st') = some (v, st2)) (h : Is (S T) is keep k Q ((d, v) :: e) st2) : Is (S T) (⟨some d, none, false, .call .own f args⟩ :: is) keep k Q e st := by
  refine is_of (v := v) (st' := st2) ?_ h
  simp only [evalPI, opdO_some hf, getsO_some ha, callV, forceL_some hw, callM, hc, Option.bind_some, ho]

/-- A call in a region of its own: what it hands back is sealed. -/
theorem is_callI {T : Tab} {st st' : St} {f : Opd} {args : List Opd} {g : FuncId} {first cap vs ws : List AV} {v : AV} (hf : opdO e f = some (.func (.func g) first cap)) (ha : getsO e args = some vs) (hw : forceL (weaks (first ++ vs ++ cap)) = some ws)
    (hc : callM (S T) .inner g ws st = some (v, st')) (h : Is (S T) is keep k Q ((d, v) :: e) st') : Is (S T) (⟨some d, none, false, .call .inner f args⟩ :: is) keep k Q e st := by
  refine is_of (v := v) (st' := st') ?_ h
  simp only [evalPI, opdO_some hf, getsO_some ha, callV, forceL_some hw, hc]
theorem is_callM {T : Tab} {st st' : St} {f : Opd} {args : List Opd} {g : FuncId} {first cap vs ws : List AV} {v : AV} (hf : opdO e f = some (.func (.func g) first cap)) (ha : getsO e args = some vs) (hw : forceL (weaks (first ++ vs ++ cap)) = some ws)
    (hc : callM (S T) .move g ws st = some (v, st')) (h : Is (S T) is keep k Q ((d, v) :: e) st') : Is (S T) (⟨some d, none, false, .call .move f args⟩ :: is) keep k Q e st := by
  refine is_of (v := v) (st' := st') ?_ h
  simp only [evalPI, opdO_some hf, getsO_some ha, callV, forceL_some hw, hc]

/-- The slice that a callee made becomes the caller's. -/
theorem move_ref {T : Tab} {g : FuncId} {ws : List AV} {A0 : List (Bool × List Blk)} {L0 L1 : List Blk} {ix w ver : Nat} {es : List AV} (hc : S T g ws ⟨A0 ++ [(false, L0)], false, []⟩ = some (.ref (A0 ++ [(false, L0)]).length ix ver 0 es.length, ⟨A0 ++ [(false, L0)], false, L1⟩))
    (hL : L1[ix]? = some (.arr w ver es)) (him : es.all (imm 6) = true) : callM (S T) .move g ws ⟨A0, false, L0⟩ = some (.ref A0.length L0.length 0 0 es.length, ⟨A0, false, L0 ++ [.arr w 0 es]⟩) := by
  simp only [callM, St.push, hc, Option.bind_some, adoptK, adopt1, if_true, hL, adoptR, pop_append, adoptB, Bool.false_eq_true, false_or, List.drop_zero, List.take_length, him]
  simp
theorem move_tup {T : Tab} {g : FuncId} {ws vs : List AV} {A0 : List (Bool × List Blk)} {L0 L1 : List Blk} {ix w ver : Nat} {es : List AV} (hc : S T g ws ⟨A0 ++ [(false, L0)], false, []⟩ = some (.tup (.ref (A0 ++ [(false, L0)]).length ix ver 0 es.length :: vs), ⟨A0 ++ [(false, L0)], false, L1⟩))
    (hL : L1[ix]? = some (.arr w ver es)) (him : es.all (imm 6) = true) (hvs : vs.all (imm 6) = true) : callM (S T) .move g ws ⟨A0, false, L0⟩ = some (.tup (.ref A0.length L0.length 0 0 es.length :: vs), ⟨A0, false, L0 ++ [.arr w 0 es]⟩) := by
  simp only [callM, St.push, hc, Option.bind_some, adoptK, if_pos hvs, adopt1, if_true, hL, adoptR, pop_append, adoptB, Bool.false_eq_true, false_or, List.drop_zero, List.take_length, him]
  simp [tup1]
theorem move_tupn {T : Tab} {g : FuncId} {ws vs : List AV} {A0 : List (Bool × List Blk)} {L0 L1 : List Blk} (hc : S T g ws ⟨A0 ++ [(false, L0)], false, []⟩ = some (.tup (.nils :: vs), ⟨A0 ++ [(false, L0)], false, L1⟩))
    (hvs : vs.all (imm 6) = true) : callM (S T) .move g ws ⟨A0, false, L0⟩ = some (.tup (.nils :: vs), ⟨A0, false, L0⟩) := by
  simp only [callM, St.push, hc, Option.bind_some, adoptK, if_pos hvs, adopt1, leaveK, pop_append, popK, tup1]
theorem inner_of {T : Tab} {g : FuncId} {ws : List AV} {st : St} {v v' : AV} {L1 L2 : List Blk} {ro : Bool} (hc : S T g ws ⟨st.A ++ [(st.ro, st.L)], false, []⟩ = some (v, ⟨st.A ++ [(st.ro, st.L)], false, L1⟩))
    (hs : sealV deep (st.A ++ [(st.ro, st.L)]).length ⟨st.A ++ [(st.ro, st.L)], false, L1⟩ v = some (v', ⟨st.A ++ [(st.ro, st.L)], ro, L2⟩)) : callM (S T) .inner g ws st = some (v', st) := by
  simp only [callM, St.push, hc, Option.bind_some, scopeK, sealK]
  rw [hs]
  simp only [Option.bind_some, leaveK, pop_append, popK]

/-! ### Functions -/

/-- A function that works in the caller's region. -/
theorem s_keep {T : Tab} {f : FuncId} {body : PC} {res : List RV} {args : List AV} {st st2 : St} {v : AV} (hT : T f = some (.pf ⟨true, body, res⟩))
    (h : Ru (S T) body [] (fun x e st' => endK true res (x, e, st') = some (v, st2)) (initEnv 0 args) st) : S T f args st = some (v, st2) := by
  obtain ⟨⟨x, e', st', h1, h2⟩⟩ := h
  refine S_of hT ?_
  simp only [callBody, if_true, h1, Option.bind_some]; exact h2


/-- A function that hands back memory, or works in the caller's region. -/
theorem sp_keep {T : Tab} {f : FuncId} {body : PC} {res : List RV} {args : List AV} {st : St} {P : AV → St → Prop} (hT : T f = some (.pf ⟨true, body, res⟩))
    (h : Ru (S T) body [] (fun x e st' => ∃ v st'', endK true res (x, e, st') = some (v, st'') ∧ P v st'') (initEnv 0 args) st) : Sp T f args st P := by
  obtain ⟨⟨x, e', st', h1, v, st'', h2, h3⟩⟩ := h
  refine ⟨v, st'', S_of hT ?_, h3⟩
  simp only [callBody, if_true, h1, Option.bind_some]; exact h2

/-- A function with a region of its own. -/
theorem sp_of {T : Tab} {f : FuncId} {body : PC} {res : List RV} {args : List AV} {st : St} {P : AV → St → Prop} (hT : T f = some (.pf ⟨false, body, res⟩))
    (h : Ru (S T) body [] (fun x e st' => ∃ v st'', endK false res (x, e, st') = some (v, st'') ∧ P v st'') (initEnv 0 args) ⟨st.A ++ [(st.ro, st.L)], false, []⟩) : Sp T f args st P := by
  obtain ⟨⟨x, e', st', h1, v, st'', h2, h3⟩⟩ := h
  refine ⟨v, st'', S_of hT ?_, h3⟩
  simp only [callBody, Bool.false_eq_true, if_false, St.push, h1, Option.bind_some]; exact h2

/-- The same, of a function that gives a value and leaves the store. -/
theorem s_of {T : Tab} {f : FuncId} {body : PC} {res : List RV} {args : List AV} {st : St} {v : AV} (hT : T f = some (.pf ⟨false, body, res⟩))
    (h : ∀ A, A = st.A ++ [(st.ro, st.L)] → Ru (S T) body [] (fun x e st' => endK false res (x, e, st') = some (v, st)) (initEnv 0 args) ⟨A, false, []⟩) : S T f args st = some (v, st) := by
  obtain ⟨⟨x, e', st', h1, h2⟩⟩ := h _ rfl
  refine S_of hT ?_
  simp only [callBody, Bool.false_eq_true, if_false, St.push, h1, Option.bind_some]; exact h2

theorem resO {st : St} {res : List RV} {keep : Bool} {x : Ex} {P : AV × St → Prop} (hx : x = .norm ∨ x = .ret) {v : AV} (hr : result st e res = some v) {r : AV × St} (h : (if keep = true then ret1 st v else sealK st v) = some r) : endK keep res (x, e, st) = some r := by
  rcases hx with rfl | rfl <;> simp only [endK, hr, Option.bind_some] <;> cases keep <;> simpa using h

/-- The end of a function with a region of its own: a value that holds no memory of that region. -/
theorem end_of {st : St} {r : Bool × List Blk} {A0 : List (Bool × List Blk)} {L : List Blk} {res : List RV} {x : Ex} {v v' : AV} {ro : Bool} {L' : List Blk} (hA : A = A0 ++ [r]) (hx : x = .norm ∨ x = .ret) (hr : result ⟨A, false, L⟩ e res = some v)
    (hs : sealV deep A.length ⟨A, false, L⟩ v = some (v', ⟨A, ro, L'⟩)) (hst : st = ⟨A0, r.1, r.2⟩) : endK false res (x, e, ⟨A, false, L⟩) = some (v', st) := by
  have : sealK ⟨A, false, L⟩ v = some (v', st) := by
    unfold sealK
    rw [show (⟨A, false, L⟩ : St).A.length = A.length from rfl, hs]
    simp only [Option.bind_some, leaveK]
    rw [hA, pop_append, hst]; rfl
  rcases hx with rfl | rfl <;> simp only [endK, hr, Option.bind_some, Bool.false_eq_true, if_false, this]
end

/-- What lies in an older region, seen from a region of its own. -/
theorem get_old {st : St} {A : List (Bool × List Blk)} {ro : Bool} {L : List Blk} (hA : A = st.A ++ [(st.ro, st.L)]) {lv ix : Nat} {b : Blk} (h : st.get lv ix = some b) : St.get ⟨A, ro, L⟩ lv ix = some b := by
  have := St.get_le h
  rw [hA, St.get_push, if_neg (by omega)]; exact h

/-- An element of an immutable slice that is known by a function. -/
theorem is_ixM {O : Orc} {k : List Fr} {Q : Post} {e : Env} {st : St} {keep : List Nat} {is : List PI} {d : Nat} {α : Type} {f : α → AV} {l : List α} {w : Nat} {x i : Opd} {n : Int} (hx : opdO e x = some (.lit (l.map f))) (hi : opdO e i = some (.int .i64 n)) (hn : 0 ≤ n ∧ n < l.length) (hw : ∀ a, (f a).wide = some w)
    (h : ∀ a, l[n.toNat]? = some a → Is O is keep k Q ((d, .lptr (f a) 0) :: e) st) : Is O (⟨some d, none, false, .ixS w x i⟩ :: is) keep k Q e st := by
  have hlt : n.toNat < l.length := by omega
  refine is_ixL hx hi (by simpa using hn) (v := f l[n.toNat]) (by simp [hlt]) (hw _) (h _ ?_)
  simp [hlt]

/-- The same, of elements that are known. -/
theorem is_ixF {O : Orc} {k : List Fr} {Q : Post} {e : Env} {st : St} {keep : List Nat} {is : List PI} {d : Nat} {α : Type} {f : α → AV} {l : List α} {F : Nat → α} {w : Nat} {x i : Opd} {n : Int} (hg : ∀ i, i < l.length → l[i]? = some (F i)) (hx : opdO e x = some (.lit (l.map f))) (hi : opdO e i = some (.int .i64 n)) (hn : 0 ≤ n ∧ n < l.length) (hw : ∀ a, (f a).wide = some w)
    (h : Is O is keep k Q ((d, .lptr (f (F n.toNat)) 0) :: e) st) : Is O (⟨some d, none, false, .ixS w x i⟩ :: is) keep k Q e st := by
  refine is_ixL hx hi (by simpa using hn) (v := f (F n.toNat)) ?_ (hw _) h
  rw [List.getElem?_map, hg n.toNat (by omega)]; rfl

theorem is_callB {T : Tab} {k : List Fr} {Q : Post} {e : Env} {keep : List Nat} {is : List PI} {d : Nat} {st st' : St} {f : Opd} {args : List Opd} {g : FuncId} {first cap vs ws : List AV} {p : Prop} [Decidable p] (hf : opdO e f = some (.func (.func g) first cap)) (ha : getsO e args = some vs) (hw : forceL (weaks (first ++ vs ++ cap)) = some ws)
    (hc : S T g ws st = some (.bool (decide p), st')) (hT : p → Is (S T) is keep k Q ((d, .bool true) :: e) st') (hF : ¬ p → Is (S T) is keep k Q ((d, .bool false) :: e) st') : Is (S T) (⟨some d, none, false, .call .norm f args⟩ :: is) keep k Q e st := by
  by_cases q : p
  · rw [decide_eq_true q] at hc; exact is_callE hf ha hw hc (hT q)
  · rw [decide_eq_false q] at hc; exact is_callE hf ha hw hc (hF q)

def resLO (st : St) (e : Env) : List RV → Option (List AV)
  | [] => some []
  | .s t :: rs => match lookO e t with
    | some v => match resLO st e rs with
      | some r => some (v :: r)
      | none => none
    | none => none
  | .c t agg n :: rs => match lookO e t with
    | some a => match loadP st agg n a with
      | some v => match resLO st e rs with
        | some r => some (v :: r)
        | none => none
      | none => none
    | none => none

theorem resLO_some {st : St} {e : Env} : ∀ {rs : List RV} {vs : List AV}, resLO st e rs = some vs → resL st e rs = some vs
  | [], vs, h => h
  | .s t :: rs, vs, h => by
    simp only [resLO] at h
    split at h
    · rename_i v hv
      split at h
      · rename_i r hr
        simp only [Option.some.injEq] at h
        simp only [resL, resV, Option.bind_some, resLO_some hr, Option.map_some, lookO_some hv, h]
      · simp at h
    · simp at h
  | .c t agg n :: rs, vs, h => by
    simp only [resLO] at h
    split at h
    · rename_i a ha
      split at h
      · rename_i v hv
        split at h
        · rename_i r hr
          simp only [Option.some.injEq] at h
          simp only [resL, resV, lookO_some ha, hv, Option.bind_some, resLO_some hr, Option.map_some, h]
        · simp at h
      · simp at h
    · simp at h

def tupO : List AV → Option AV
  | [v] => some v
  | vs => some (.tup vs)

theorem tupO_some {vs : List AV} {v : AV} (h : tupO vs = some v) : tupOf vs = v := by
  unfold tupO at h
  split at h
  · simpa [tupOf] using h
  · rename_i hn
    simp only [Option.some.injEq] at h
    subst h
    unfold tupOf
    split
    · rename_i u
      exact absurd rfl (hn u)
    · rfl

/-- A value, its parts forced. -/
def forceW : AV → Option AV
  | .agg cs => match forceL cs with
    | some r => some (.agg r)
    | none => none
  | .tup cs => match forceL cs with
    | some r => some (.tup r)
    | none => none
  | v => some v

theorem forceW_some {v r : AV} (h : forceW v = some r) : v = r := by
  unfold forceW at h
  split at h
  · split at h
    · rename_i q hq
      simp only [Option.some.injEq] at h
      rw [← h, forceL_some hq]
    · simp at h
  · split at h
    · rename_i q hq
      simp only [Option.some.injEq] at h
      rw [← h, forceL_some hq]
    · simp at h
  · simpa using h

theorem end_st {e : Env} {A : List (Bool × List Blk)} {st : St} {L : List Blk} {res : List RV} {x : Ex} {vs : List AV} {v v' w u : AV} {L' : List Blk} {ro : Bool} (hA : A = st.A ++ [(st.ro, st.L)]) (hx : x = .norm ∨ x = .ret) (hr : resLO ⟨A, false, L⟩ e res = some vs) (ht : tupO vs = some v)
    (hs : sealV deep A.length ⟨A, false, L⟩ v = some (v', ⟨A, ro, L'⟩)) (hw : forceW v' = some w) (hu : w = u) : endK false res (x, e, ⟨A, false, L⟩) = some (u, st) := by
  subst hu
  rw [← forceW_some hw]
  refine end_of hA hx ?_ hs rfl
  simp only [result, resLO_some hr, Option.map_some, tupO_some ht]

theorem end_keep {e : Env} {st : St} {res : List RV} {x : Ex} {vs : List AV} {v w u : AV} (hx : x = .norm ∨ x = .ret) (hr : resLO st e res = some vs) (ht : tupO vs = some v) (hw : forceW v = some w) (hu : w = u) : endK true res (x, e, st) = some (u, st) := by
  subst hu
  rw [← forceW_some hw]
  have : result st e res = some v := by simp only [result, resLO_some hr, Option.map_some, tupO_some ht]
  rcases hx with rfl | rfl <;> simp only [endK, this, Option.bind_some, if_true, ret1]

theorem seal_ref {A : List (Bool × List Blk)} {L : List Blk} {m ix w ver n : Nat} {es : List AV} (hg : L[ix]? = some (.arr w ver es)) (hn : n = es.length) (he : ∀ v, v ∈ es → imm m v = true) :
    sealV (m + 1) A.length ⟨A, false, L⟩ (.ref A.length ix ver 0 n) = some (.lit es, ⟨A, false, L.set ix .dead⟩) := by
  subst hn
  simp only [sealV, Nat.lt_irrefl, if_false, and_self, if_true, hg, refB, Nat.zero_add, Nat.le_refl, List.drop_zero, List.take_length, Option.bind_some, mapSt_id (fun u hu => seal_imm (he u hu)), litK]

theorem seal_tup1 {m b : Nat} {st st1 : St} {x x' : AV} {ys : List AV} (hx : sealV m b st x = some (x', st1)) (hy : ∀ y, y ∈ ys → imm m y = true) : sealV (m + 1) b st (.tup (x :: ys)) = some (.tup (x' :: ys), st1) := by
  simp only [sealV, mapSt, hx, Option.bind_some, mapSt_id (fun u hu => seal_imm (hy u hu)), consK, tupK]

theorem end_ref {e : Env} {A : List (Bool × List Blk)} {st : St} {L : List Blk} {res : List RV} {x : Ex} {ix w ver n : Nat} {es : List AV} {u : AV} (hA : A = st.A ++ [(st.ro, st.L)]) (hx : x = .norm ∨ x = .ret) (hr : resLO ⟨A, false, L⟩ e res = some [.ref A.length ix ver 0 n])
    (hg : L[ix]? = some (.arr w ver es)) (hn : n = es.length) (he : ∀ v, v ∈ es → imm 5 v = true) (hu : .lit es = u) : endK false res (x, e, ⟨A, false, L⟩) = some (u, st) :=
  end_st hA hx hr rfl (seal_ref hg hn he) rfl hu

theorem end_ref1 {e : Env} {A : List (Bool × List Blk)} {st : St} {L : List Blk} {res : List RV} {x : Ex} {ix w ver n : Nat} {es : List AV} {y u : AV} (hA : A = st.A ++ [(st.ro, st.L)]) (hx : x = .norm ∨ x = .ret) (hr : resLO ⟨A, false, L⟩ e res = some [.ref A.length ix ver 0 n, y])
    (hg : L[ix]? = some (.arr w ver es)) (hn : n = es.length) (he : ∀ v, v ∈ es → imm 4 v = true) (hy : imm 5 y = true) (hu : .tup [.lit es, y] = u) : endK false res (x, e, ⟨A, false, L⟩) = some (u, st) :=
  end_st hA hx hr rfl (seal_tup1 (seal_ref hg hn he) (by intro z hz; simp only [List.mem_singleton] at hz; rw [hz]; exact hy)) rfl hu

theorem end_ofB {e : Env} {A : List (Bool × List Blk)} {st : St} {r : Bool × List Blk} {A0 : List (Bool × List Blk)} {L : List Blk} {res : List RV} {x : Ex} {p : Prop} [Decidable p] {b : Bool} (hA : A = A0 ++ [r]) (hx : x = .norm ∨ x = .ret) (hr : result ⟨A, false, L⟩ e res = some (.bool b))
    (hst : st = ⟨A0, r.1, r.2⟩) (hb : b = decide p) : endK false res (x, e, ⟨A, false, L⟩) = some (.bool (decide p), st) := by
  subst hb
  exact end_of hA hx hr rfl hst

end Go.QAbs
