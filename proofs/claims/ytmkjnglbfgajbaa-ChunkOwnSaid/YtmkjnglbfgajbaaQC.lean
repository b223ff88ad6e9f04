/- The limit of the fuelled evaluator: `S T f args st`, and: what a body gives under `S` is what `S` gives. No condition. -/
import Derived.Test.YtmkjnglbfgajbaaQB
namespace Go.QAbs
set_option linter.unusedVariables false
set_option linter.unusedSimpArgs false

def Le (O O' : Orc) : Prop := ∀ f a s r, O f a s = some r → O' f a s = some r
def RLe (F G : Run) : Prop := ∀ e s r, F e s = some r → G e s = some r
def ILe (I J : Run → Run) : Prop := ∀ F G, RLe F G → RLe (I F) (J G)

theorem Le.refl (O : Orc) : Le O O := fun _ _ _ _ h => h
theorem Le.trans {O O' O'' : Orc} (h : Le O O') (h' : Le O' O'') : Le O O'' := fun f a s r q => h' f a s r (h f a s r q)

theorem bind_mono {α β : Type} {x y : Option α} {f g : α → Option β} (hx : ∀ a, x = some a → y = some a) (hf : ∀ a r, f a = some r → g a = some r)
    {r : β} (h : x.bind f = some r) : y.bind g = some r := by
  simp only [Option.bind_eq_some_iff] at h ⊢
  obtain ⟨a, ha, hr⟩ := h
  exact ⟨a, hx a ha, hf a r hr⟩

theorem callM_mono {O O' : Orc} (h : Le O O') {m : CM} {f : FuncId} {args : List AV} {st : St} {r : AV × St} (q : callM O m f args st = some r) :
    callM O' m f args st = some r := by
  cases m with
  | norm => exact h _ _ _ _ q
  | own => exact bind_mono (fun a => h _ _ _ a) (fun _ _ q => q) q
  | pure => exact bind_mono (fun a => h _ _ _ a) (fun _ _ q => q) q
  | inner => exact bind_mono (fun a => h _ _ _ a) (fun _ _ q => q) q
  | move => exact bind_mono (fun a => h _ _ _ a) (fun _ _ q => q) q
  | pin => exact bind_mono (fun a q => bind_mono (fun a => h _ _ _ a) (fun _ _ q => q) q) (fun _ _ q => q) q

theorem callV_mono {O O' : Orc} (h : Le O O') {m : CM} {args : List AV} {st : St} {v : AV} {r : AV × St} (q : callV O m args st v = some r) :
    callV O' m args st v = some r := by
  unfold callV at q ⊢
  split at q
  · exact callM_mono h q
  · simp at q

theorem evalPI_mono {O O' : Orc} (h : Le O O') {e : Env} {st : St} {o : PO} {r : AV × St} (q : evalPI O e st o = some r) : evalPI O' e st o = some r := by
  cases o <;> try exact q
  exact callV_mono h q

theorem evalI_mono {O O' : Orc} (h : Le O O') {e : Env} {st : St} {i : PI} {r : AV × St} (q : evalI O e st i = some r) : evalI O' e st i = some r := by
  unfold evalI at q ⊢
  split at q
  · rename_i ho; rw [if_pos ho]; exact q
  · rename_i ho; rw [if_neg ho]; exact evalPI_mono h q

theorem runIs_mono {O O' : Orc} (h : Le O O') : ∀ {is : List PI} {e : Env} {st : St} {r : Env × St}, runIs O is e st = some r → runIs O' is e st = some r
  | [], _, _, _, q => q
  | i :: is, e, st, r, q => by
    refine bind_mono (fun _ q => q) (fun w r q => ?_) q
    cases w with
    | true => exact bind_mono (fun _ q => evalI_mono h q) (fun _ _ q => runIs_mono h q) q
    | false => exact runIs_mono h q

theorem seqK_mono {F G : Run} (h : RLe F G) {x r : Ex × Env × St} (q : seqK F x = some r) : seqK G x = some r := by
  obtain ⟨x, e, st⟩ := x
  cases x with
  | norm => exact h _ _ _ q
  | ex id => exact q
  | ret => exact q

theorem iter_mono {F G : Run} (h : RLe F G) : ∀ {n m : Nat} {e : Env} {st : St} {r : Ex × Env × St}, n ≤ m → iter F n e st = some r → iter G m e st = some r
  | 0, _, _, _, _, _, q => by simp [iter] at q
  | n + 1, 0, _, _, _, hn, _ => by omega
  | n + 1, m + 1, e, st, r, hn, q => bind_mono (fun _ q => h _ _ _ q) (fun _ _ q => seqK_mono (fun _ _ _ q => iter_mono h (by omega) q) q) q

theorem exec_mono {O O' : Orc} {I J : Run → Run} (h : Le O O') (hi : ILe I J) : ∀ {pc : PC} {e : Env} {st : St} {r : Ex × Env × St},
    exec O I pc e st = some r → exec O' J pc e st = some r := by
  intro pc
  induction pc with
  | skip => exact fun q => q
  | ret => exact fun q => q
  | exit id => exact fun q => q
  | seq a b iha ihb => exact fun q => bind_mono (fun _ q => iha q) (fun _ _ q => seqK_mono (fun _ _ _ q => ihb q) q) q
  | ite c a b iha ihb =>
    intro e st r q
    simp only [exec] at q ⊢
    unfold iteV at q ⊢
    split at q
    · exact iha q
    · exact ihb q
    · simp at q
  | block id b ih => exact fun q => bind_mono (fun _ q => ih q) (fun _ _ q => q) q
  | loop b ih => exact fun q => hi _ _ (fun _ _ _ q => ih q) _ _ _ q
  | reg keep is => exact fun q => bind_mono (fun _ q => runIs_mono h q) (fun _ _ q => q) q
  | regH js keep is => exact fun q => bind_mono (fun _ q => q) (fun _ _ q => bind_mono (fun _ q => runIs_mono h q) (fun _ _ q => q) q) q

theorem callBody_mono {O O' : Orc} {I J : Run → Run} (h : Le O O') (hi : ILe I J) {pf : PF} {args : List AV} {st : St} {r : AV × St}
    (q : callBody O I pf args st = some r) : callBody O' J pf args st = some r :=
  bind_mono (fun _ q => exec_mono h hi q) (fun _ _ q => q) q

def itN (n : Nat) : Run → Run := fun F => iter F n

theorem itN_le {n m : Nat} (h : n ≤ m) : ILe (itN n) (itN m) := fun _ _ hF _ _ _ q => iter_mono hF h q

theorem callN_le (T : Tab) : ∀ n m, n ≤ m → Le (callN T n) (callN T m)
  | 0, _, _ => fun _ _ _ _ q => by simp [callN] at q
  | n + 1, 0, h => by omega
  | n + 1, m + 1, h => fun _ _ _ _ q => bind_mono (fun _ q => q) (fun x _ q => by
    cases x with
    | pf pf => exact callBody_mono (callN_le T n m (by omega)) (itN_le (show n ≤ m by omega)) q
    | base o => exact q) q

open Classical in
/-- The limit of an iteration. -/
noncomputable def itS : Run → Run := fun F e st => if h : ∃ r, ∃ n, iter F n e st = some r then some h.choose else none

open Classical in
/-- What a function gives. -/
noncomputable def S (T : Tab) : Orc := fun f a st => if h : ∃ r, ∃ n, callN T n f a st = some r then some h.choose else none

theorem S_iff {T : Tab} {f : FuncId} {a : List AV} {st : St} {r : AV × St} : S T f a st = some r ↔ ∃ n, callN T n f a st = some r := by
  unfold S
  constructor
  · intro q
    split at q
    · rename_i h; simp only [Option.some.injEq] at q; subst q; exact h.choose_spec
    · simp at q
  · rintro ⟨n, hn⟩
    have h : ∃ r, ∃ n, callN T n f a st = some r := ⟨r, n, hn⟩
    rw [dif_pos h]
    obtain ⟨m, hm⟩ := h.choose_spec
    have h1 := callN_le T n (max n m) (by omega) _ _ _ _ hn
    have h2 := callN_le T m (max n m) (by omega) _ _ _ _ hm
    rw [h1] at h2
    exact h2.symm

theorem itS_iff {F : Run} {e : Env} {st : St} {r : Ex × Env × St} : itS F e st = some r ↔ ∃ n, iter F n e st = some r := by
  unfold itS
  constructor
  · intro q
    split at q
    · rename_i h; simp only [Option.some.injEq] at q; subst q; exact h.choose_spec
    · simp at q
  · rintro ⟨n, hn⟩
    have h : ∃ r, ∃ n, iter F n e st = some r := ⟨r, n, hn⟩
    rw [dif_pos h]
    obtain ⟨m, hm⟩ := h.choose_spec
    have h1 := iter_mono (F := F) (G := F) (fun _ _ _ q => q) (show n ≤ max n m by omega) hn
    have h2 := iter_mono (F := F) (G := F) (fun _ _ _ q => q) (show m ≤ max n m by omega) hm
    rw [h1] at h2
    exact h2.symm

theorem bind_cont {α β : Type} {x : Option α} {f : α → Option β} (y : Nat → Option α) (g : Nat → α → Option β)
    (my : ∀ n m, n ≤ m → ∀ a, y n = some a → y m = some a) (mg : ∀ n m, n ≤ m → ∀ a r, g n a = some r → g m a = some r)
    (hx : ∀ a, x = some a → ∃ n, y n = some a) (hf : ∀ a r, f a = some r → ∃ n, g n a = some r) {r : β} (h : x.bind f = some r) :
    ∃ n, (y n).bind (g n) = some r := by
  simp only [Option.bind_eq_some_iff] at h ⊢
  obtain ⟨a, ha, hr⟩ := h
  obtain ⟨n, hn⟩ := hx a ha
  obtain ⟨m, hm⟩ := hf a r hr
  exact ⟨max n m, a, my n _ (by omega) a hn, mg m _ (by omega) a r hm⟩

theorem callM_cont {T : Tab} {m : CM} {f : FuncId} {args : List AV} {st : St} {r : AV × St} (q : callM (S T) m f args st = some r) :
    ∃ n, callM (callN T n) m f args st = some r := by
  cases m with
  | norm => exact S_iff.1 q
  | own => exact bind_cont (fun n => callN T n f args { st with ro := true }) (fun _ => ownK st) (fun n m h a q => callN_le T n m h _ _ _ _ q) (fun _ _ _ _ _ q => q) (fun a q => S_iff.1 q) (fun _ _ q => ⟨0, q⟩) q
  | pure => exact bind_cont (fun n => callN T n f args st.allRo) (fun _ => pureK st) (fun n m h a q => callN_le T n m h _ _ _ _ q) (fun _ _ _ _ _ q => q) (fun a q => S_iff.1 q) (fun _ _ q => ⟨0, q⟩) q
  | inner => exact bind_cont (fun n => callN T n f args st.push) (fun _ => scopeK) (fun n m h a q => callN_le T n m h _ _ _ _ q) (fun _ _ _ _ _ q => q) (fun a q => S_iff.1 q) (fun _ _ q => ⟨0, q⟩) q
  | move => exact bind_cont (fun n => callN T n f args st.push) (fun _ => adoptK) (fun n m h a q => callN_le T n m h _ _ _ _ q) (fun _ _ _ _ _ q => q) (fun a q => S_iff.1 q) (fun _ _ q => ⟨0, q⟩) q
  | pin => exact bind_cont (fun n => (callN T n f args st.allRo.push).bind scopeK) (fun _ => pureK st) (fun n m h a q => bind_mono (fun a q => callN_le T n m h _ _ _ _ q) (fun _ _ q => q) q) (fun _ _ _ _ _ q => q) (fun a q => bind_cont (fun n => callN T n f args st.allRo.push) (fun _ => scopeK) (fun n m h a q => callN_le T n m h _ _ _ _ q) (fun _ _ _ _ _ q => q) (fun a q => S_iff.1 q) (fun _ _ q => ⟨0, q⟩) q) (fun _ _ q => ⟨0, q⟩) q

theorem evalI_cont {T : Tab} {e : Env} {st : St} {i : PI} {r : AV × St} (q : evalI (S T) e st i = some r) : ∃ n, evalI (callN T n) e st i = some r := by
  unfold evalI at q ⊢
  split at q
  · rename_i ho; exact ⟨0, by rw [if_pos ho]; exact q⟩
  · rename_i ho
    simp only [if_neg ho]
    generalize i.op = o at q ⊢
    cases o <;> try exact ⟨0, q⟩
    rename_i m f args
    simp only [evalPI] at q ⊢
    unfold callV at q ⊢
    split at q
    · exact callM_cont q
    · simp at q

theorem runIs_cont {T : Tab} : ∀ {is : List PI} {e : Env} {st : St} {r : Env × St}, runIs (S T) is e st = some r → ∃ n, runIs (callN T n) is e st = some r
  | [], _, _, _, q => ⟨0, q⟩
  | i :: is, e, st, r, q => by
    refine bind_cont (fun _ => wantedV e i.guard) (fun n => runW (callN T n) i (runIs (callN T n) is) e st) (fun _ _ _ _ q => q) ?_ (fun a q => ⟨0, q⟩) ?_ q
    · intro n m h w r q
      cases w with
      | true => exact bind_mono (fun _ q => evalI_mono (callN_le T n m h) q) (fun _ _ q => runIs_mono (callN_le T n m h) q) q
      | false => exact runIs_mono (callN_le T n m h) q
    · intro w r q
      cases w with
      | true => exact bind_cont (fun n => evalI (callN T n) e st i) (fun n => runK (runIs (callN T n) is) e i.dst) (fun n m h a q => evalI_mono (callN_le T n m h) q) (fun n m h a r q => runIs_mono (callN_le T n m h) q) (fun a q => evalI_cont q) (fun a r q => runIs_cont q) q
      | false => exact runIs_cont q

theorem exec_le (T : Tab) {n m : Nat} (h : n ≤ m) {pc : PC} : RLe (exec (callN T n) (itN n) pc) (exec (callN T m) (itN m) pc) :=
  fun _ _ _ q => exec_mono (callN_le T n m h) (itN_le h) q

theorem exec_cont {T : Tab} : ∀ {pc : PC} {e : Env} {st : St} {r : Ex × Env × St},
    exec (S T) itS pc e st = some r → ∃ n, exec (callN T n) (itN n) pc e st = some r := by
  intro pc
  induction pc with
  | skip => exact fun q => ⟨0, q⟩
  | ret => exact fun q => ⟨0, q⟩
  | exit id => exact fun q => ⟨0, q⟩
  | seq a b iha ihb =>
    intro e st r q
    refine bind_cont (fun n => exec (callN T n) (itN n) a e st) (fun n => seqK (exec (callN T n) (itN n) b)) (fun n m h a q => exec_le T h _ _ _ q) (fun n m h a r q => seqK_mono (exec_le T h) q) (fun a q => iha q) ?_ q
    intro x r q
    obtain ⟨x, e', st'⟩ := x
    cases x with
    | norm => exact ihb q
    | ex id => exact ⟨0, q⟩
    | ret => exact ⟨0, q⟩
  | ite c a b iha ihb =>
    intro e st r q
    simp only [exec] at q ⊢
    unfold iteV at q ⊢
    split at q
    · exact iha q
    · exact ihb q
    · simp at q
  | block id b ih =>
    intro e st r q
    exact bind_cont (fun n => exec (callN T n) (itN n) b e st) (fun _ => blockK id) (fun n m h a q => exec_le T h _ _ _ q) (fun _ _ _ _ _ q => q) (fun a q => ih q) (fun _ _ q => ⟨0, q⟩) q
  | loop b ih =>
    intro e st r q
    simp only [exec] at q ⊢
    obtain ⟨k, hk⟩ := itS_iff.1 q
    clear q
    induction k generalizing e st r with
    | zero => simp [iter] at hk
    | succ k ihk =>
      obtain ⟨n, hn⟩ := bind_cont (fun n => exec (callN T n) (itN n) b e st) (fun n => seqK (itN n (exec (callN T n) (itN n) b)))
        (fun n m h a q => exec_le T h _ _ _ q) (fun n m h a r q => seqK_mono (fun e s r q => itN_le h _ _ (exec_le T h) _ _ _ q) q) (fun a q => ih q)
        (fun x r q => by
          obtain ⟨x, e', st'⟩ := x
          cases x with
          | norm => exact ihk (e := e') (st := st') (by simpa only [seqK] using q)
          | ex id => exact ⟨0, q⟩
          | ret => exact ⟨0, q⟩) hk
      refine ⟨n + 1, ?_⟩
      exact bind_mono (fun a q => exec_le T (show n ≤ n + 1 by omega) _ _ _ q) (fun x r q => seqK_mono (fun e s r q => iter_mono (exec_le T (show n ≤ n + 1 by omega)) (Nat.le_refl n) q) q) hn
  | reg keep is =>
    intro e st r q
    exact bind_cont (fun n => runIs (callN T n) is e st) (fun _ => regK keep) (fun n m h a q => runIs_mono (callN_le T n m h) q) (fun _ _ _ _ _ q => q) (fun a q => runIs_cont q) (fun _ _ q => ⟨0, q⟩) q
  | regH js keep is =>
    intro e st r q
    exact bind_cont (fun _ => padH js st) (fun n st => (runIs (callN T n) is e st).bind (regK keep)) (fun _ _ _ _ q => q) (fun n m h a r q => bind_mono (fun _ q => runIs_mono (callN_le T n m h) q) (fun _ _ q => q) q) (fun a q => ⟨0, q⟩)
      (fun a r q => bind_cont (fun n => runIs (callN T n) is e a) (fun _ => regK keep) (fun n m h a q => runIs_mono (callN_le T n m h) q) (fun _ _ _ _ _ q => q) (fun a q => runIs_cont q) (fun _ _ q => ⟨0, q⟩) q) q

/-- WHAT THE BODY GIVES, THE FUNCTION GIVES. -/
theorem S_of {T : Tab} {f : FuncId} {pf : PF} {args : List AV} {st : St} {r : AV × St} (hT : T f = some (.pf pf)) (q : callBody (S T) itS pf args st = some r) :
    S T f args st = some r := by
  obtain ⟨n, hn⟩ := bind_cont (fun n => exec (callN T n) (itN n) pf.body (initEnv 0 args) (if pf.keep = true then st else st.push)) (fun _ => endK pf.keep pf.res) (fun n m h a q => exec_le T h _ _ _ q) (fun _ _ _ _ _ q => q) (fun a q => exec_cont q) (fun _ _ q => ⟨0, q⟩) q
  refine S_iff.2 ⟨n + 1, ?_⟩
  simp only [callN, Option.bind_eq_some_iff]
  exact ⟨.pf pf, hT, hn⟩

/-- What is known of a function, it gives. -/
theorem S_base {T : Tab} {f : FuncId} {o : List AV → St → Option (AV × St)} {args : List AV} {st : St} {r : AV × St} (hT : T f = some (.base o)) (q : o args st = some r) : S T f args st = some r := by
  refine S_iff.2 ⟨1, ?_⟩
  simp only [callN, Option.bind_eq_some_iff]
  exact ⟨.base o, hT, q⟩

/-- A closed run. -/
theorem S_of_run {T : Tab} {f : FuncId} {args : List AV} {st : St} {r : AV × St} (n : Nat) (q : callN T n f args st = some r) : S T f args st = some r :=
  S_iff.2 ⟨n, q⟩

/-- A loop, one round. -/
theorem itS_step (F : Run) (e : Env) (st : St) : itS F e st = (F e st).bind (seqK (itS F)) := by
  cases hx : F e st with
  | none =>
    cases hr : itS F e st with
    | none => rfl
    | some r =>
      obtain ⟨n, hn⟩ := itS_iff.1 hr
      cases n with
      | zero => simp [iter] at hn
      | succ n => simp [iter, hx] at hn
  | some x =>
    obtain ⟨x, e', st'⟩ := x
    cases x with
    | norm =>
      simp only [Option.bind_some, seqK]
      cases hq : itS F e' st' with
      | some r =>
        obtain ⟨n, hn⟩ := itS_iff.1 hq
        exact itS_iff.2 ⟨n + 1, by simp only [iter, hx, Option.bind_some, seqK]; exact hn⟩
      | none =>
        cases hr : itS F e st with
        | none => rfl
        | some r =>
          obtain ⟨n, hn⟩ := itS_iff.1 hr
          cases n with
          | zero => simp [iter] at hn
          | succ n =>
            simp only [iter, hx, Option.bind_some, seqK] at hn
            rw [itS_iff.2 ⟨n, hn⟩] at hq
            simp at hq
    | ex id => exact itS_iff.2 ⟨1, by simp [iter, hx, seqK]⟩
    | ret => exact itS_iff.2 ⟨1, by simp [iter, hx, seqK]⟩

end Go.QAbs
