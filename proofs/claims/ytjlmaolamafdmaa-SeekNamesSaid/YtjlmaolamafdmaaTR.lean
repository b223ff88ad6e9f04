/- A part of the proof: S4, S5, S6, S17M1, S17M2, S17M3, S17SH, NS17. No condition. -/
import Derived.Test.YtjlmaolamafdmaaT4
set_option linter.unusedVariables false
set_option linter.unusedSimpArgs false
namespace Go.QAbs
def k_mv (x : Opd) (e : Env) (st : St) : Option (AV × St) := some (x.get e, st)
def k_pick (c : Opd) (a : Opd) (b : Opd) (e : Env) (st : St) : Option (AV × St) := (pickV (a.get e) (b.get e) (c.get e)).bind (ret1 st)
def k_onil (w : Nat) (e : Env) (st : St) : Option (AV × St) := (st.new (.arr w 0 [])).bind (newRefK st.A.length 0)
def k_box (x : Opd) (e : Env) (st : St) : Option (AV × St) := (x.get e).wide.bind fun w => (st.new (.arr w 0 [x.get e])).bind (newPtrK st.A.length)
def k_boxnil (w : Nat) (e : Env) (st : St) : Option (AV × St) := (st.new (.arr w 0 [])).bind (boxNilK st.A.length)
def k_build (z : List AV) (parts : List (Nat × Nat × Opd)) (e : Env) (st : St) : Option (AV × St) := (fillV z (partsV e parts)).bind fun cs => some (.agg cs, st)
def k_bslice (own : Bool) (w : Nat) (z : List AV) (parts : List (Nat × Opd)) (e : Env) (st : St) : Option (AV × St) := (fillE w z (partsE e parts)).bind (bslK own w st)
def k_ld (agg : Bool) (n : Nat) (a : Opd) (e : Env) (st : St) : Option (AV × St) := (loadP st agg n (a.get e)).bind (ret1 st)
def k_st (n : Nat) (a : Opd) (x : Opd) (e : Env) (st : St) : Option (AV × St) := (storeP st n (x.get e) (a.get e)).bind retU
def k_nilck (x : Opd) (e : Env) (st : St) : Option (AV × St) := (nilckV (x.get e)).bind (ret1 st)
def k_bin (op : BinOp) (x : Opd) (y : Opd) (e : Env) (st : St) : Option (AV × St) := (binV op (x.get e) (y.get e)).bind (ret1 st)
def k_eqs (neg : Bool) (kind : Nat) (ks : List (Nat × Nat)) (x : Opd) (y : Opd) (e : Env) (st : St) : Option (AV × St) := (eqV ks kind (x.get e) (y.get e)).bind fun b => some (.bool (if neg = true then !b else b), st)
def k_un (op : UnOp) (x : Opd) (e : Env) (st : St) : Option (AV × St) := (unV op (x.get e)).bind (ret1 st)
def k_cint (k : IntKind) (x : Opd) (e : Env) (st : St) : Option (AV × St) := (cintV k (x.get e)).bind (ret1 st)
def k_cstr (x : Opd) (e : Env) (st : St) : Option (AV × St) := (cstrV (x.get e)).bind (ret1 st)
def k_b2s (x : Opd) (e : Env) (st : St) : Option (AV × St) := (b2sV st (x.get e)).bind (ret1 st)
def k_mkf (fn : Fn) (f : List Opd) (c : List Opd) (e : Env) (st : St) : Option (AV × St) := some (.func fn (gets e f) (gets e c), st)
def k_mkmap  (e : Env) (st : St) : Option (AV × St) := (st.new (.map [])).bind (newMapK st.A.length)
def k_mkslice (w : Nat) (bytes : Nat) (z : AV) (l : Opd) (c : Opd) (e : Env) (st : St) : Option (AV × St) := mkslV st w bytes z (l.get e) (c.get e)
def k_slcS (x : Opd) (lo : Option Opd) (hi : Option Opd) (e : Env) (st : St) : Option (AV × St) := (slcSV (oget e lo) (oget e hi) (x.get e)).bind (ret1 st)
def k_slc (w : Nat) (x : Opd) (lo : Option Opd) (hi : Option Opd) (e : Env) (st : St) : Option (AV × St) := (slcV st w (oget e lo) (oget e hi) (x.get e)).bind (ret1 st)
def k_fadr (off : Nat) (x : Opd) (e : Env) (st : St) : Option (AV × St) := (fadrV off (x.get e)).bind (ret1 st)
def k_fld (agg : Bool) (off : Nat) (n : Nat) (x : Opd) (e : Env) (st : St) : Option (AV × St) := (fldV agg off n (x.get e)).bind (ret1 st)
def k_ixS (w : Nat) (x : Opd) (i : Opd) (e : Env) (st : St) : Option (AV × St) := (ixSV st w (i.get e) (x.get e)).bind (ret1 st)
def k_ixA (len : Nat) (w : Nat) (x : Opd) (i : Opd) (e : Env) (st : St) : Option (AV × St) := (ixAV len w (i.get e) (x.get e)).bind (ret1 st)
def k_ixStr (x : Opd) (i : Opd) (e : Env) (st : St) : Option (AV × St) := (ixStrV (i.get e) (x.get e)).bind (ret1 st)
def k_ixArr (agg : Bool) (len : Nat) (w : Nat) (x : Opd) (i : Opd) (e : Env) (st : St) : Option (AV × St) := (ixArrV agg len w (i.get e) (x.get e)).bind (ret1 st)
def k_look (kk : Nat) (z : AV) (ok : Bool) (x : Opd) (i : Opd) (e : Env) (st : St) : Option (AV × St) := (lookV st kk z ok (i.get e) (x.get e)).bind (ret1 st)
def k_mupd (kk : Nat) (x : Opd) (k : Opd) (v : Opd) (e : Env) (st : St) : Option (AV × St) := (mupdV st kk (k.get e) (v.get e) (x.get e)).bind retU
def k_mdel (kk : Nat) (x : Opd) (k : Opd) (e : Env) (st : St) : Option (AV × St) := (mdelV st kk (k.get e) (x.get e)).bind retT
def k_len (k : Nat) (x : Opd) (e : Env) (st : St) : Option (AV × St) := (lenOf st k (x.get e)).bind fun n => some (.int .i64 n, st)
def k_app (w : Nat) (bytes : Nat) (s : Opd) (x : Opd) (e : Env) (st : St) : Option (AV × St) := (elems st (x.get e)).bind fun ys => appendV st w bytes ys (s.get e)
def k_cpy (w : Nat) (d : Opd) (x : Opd) (e : Env) (st : St) : Option (AV × St) := (elems st (x.get e)).bind fun ys => cpyV st w ys (d.get e)
def k_mnx (mx : Bool) (x : Opd) (y : Opd) (e : Env) (st : St) : Option (AV × St) := (mnxV mx (x.get e) (y.get e)).bind (ret1 st)
def k_ext (x : Opd) (i : Nat) (e : Env) (st : St) : Option (AV × St) := (extV i (x.get e)).bind (ret1 st)
abbrev CV := Orc → Env → St → Option (AV × St)
abbrev CMF := Orc → FuncId → List AV → St → Option (AV × St)
def m_norm : CMF := fun O f args st => O f args st
def m_own : CMF := fun O f args st => (O f args ⟨st.A, true, st.L⟩).bind (ownK st)
def m_pure : CMF := fun O f args st => (O f args st.allRo).bind (pureK st)
def m_inner : CMF := fun O f args st => (O f args st.push).bind scopeK
def m_pin : CMF := fun O f args st => ((O f args st.allRo.push).bind scopeK).bind (pureK st)
def m_move : CMF := fun O f args st => (O f args st.push).bind adoptK
noncomputable def kCallM (m : CM) : CMF := CM.rec (motive := fun _ => CMF) m_norm m_own m_pure m_inner m_pin m_move m
theorem kCallM_eq (O : Orc) (m : CM) (f : FuncId) (args : List AV) (st : St) : kCallM m O f args st = callM O m f args st := by cases m <;> rfl
noncomputable def kCallV (O : Orc) (m : CM) (args : List AV) (st : St) : AV → Option (AV × St)
 | .func (.func g) first cap => kCallM m O g (weaks (first ++ args ++ cap)) st
 | _ => none
theorem kCallV_eq (O : Orc) (m : CM) (args : List AV) (st : St) (v : AV) : kCallV O m args st v = callV O m args st v := by
 unfold kCallV callV
 split
 ·exact kCallM_eq ..
 ·rename_i hn
  split
  ·rename_i g first cap
   exact absurd rfl (hn g first cap)
  ·rfl
def i_mv (x : Opd) : CV := fun _ e st => k_mv x e st
def i_pick (c : Opd) (a : Opd) (b : Opd) : CV := fun _ e st => k_pick c a b e st
def i_onil (w : Nat) : CV := fun _ e st => k_onil w e st
def i_box (x : Opd) : CV := fun _ e st => k_box x e st
def i_boxnil (w : Nat) : CV := fun _ e st => k_boxnil w e st
def i_build (z : List AV) (parts : List (Nat × Nat × Opd)) : CV := fun _ e st => k_build z parts e st
def i_bslice (own : Bool) (w : Nat) (z : List AV) (parts : List (Nat × Opd)) : CV := fun _ e st => k_bslice own w z parts e st
def i_ld (agg : Bool) (n : Nat) (a : Opd) : CV := fun _ e st => k_ld agg n a e st
def i_st (n : Nat) (a : Opd) (x : Opd) : CV := fun _ e st => k_st n a x e st
def i_nilck (x : Opd) : CV := fun _ e st => k_nilck x e st
def i_bin (op : BinOp) (x : Opd) (y : Opd) : CV := fun _ e st => k_bin op x y e st
def i_eqs (neg : Bool) (kind : Nat) (ks : List (Nat × Nat)) (x : Opd) (y : Opd) : CV := fun _ e st => k_eqs neg kind ks x y e st
def i_un (op : UnOp) (x : Opd) : CV := fun _ e st => k_un op x e st
def i_cint (k : IntKind) (x : Opd) : CV := fun _ e st => k_cint k x e st
def i_cstr (x : Opd) : CV := fun _ e st => k_cstr x e st
def i_b2s (x : Opd) : CV := fun _ e st => k_b2s x e st
def i_mkf (fn : Fn) (f : List Opd) (c : List Opd) : CV := fun _ e st => k_mkf fn f c e st
def i_mkmap  : CV := fun _ e st => k_mkmap  e st
def i_mkslice (w : Nat) (bytes : Nat) (z : AV) (l : Opd) (c : Opd) : CV := fun _ e st => k_mkslice w bytes z l c e st
def i_slcS (x : Opd) (lo : Option Opd) (hi : Option Opd) : CV := fun _ e st => k_slcS x lo hi e st
def i_slc (w : Nat) (x : Opd) (lo : Option Opd) (hi : Option Opd) : CV := fun _ e st => k_slc w x lo hi e st
def i_fadr (off : Nat) (x : Opd) : CV := fun _ e st => k_fadr off x e st
def i_fld (agg : Bool) (off : Nat) (n : Nat) (x : Opd) : CV := fun _ e st => k_fld agg off n x e st
def i_ixS (w : Nat) (x : Opd) (i : Opd) : CV := fun _ e st => k_ixS w x i e st
def i_ixA (len : Nat) (w : Nat) (x : Opd) (i : Opd) : CV := fun _ e st => k_ixA len w x i e st
def i_ixStr (x : Opd) (i : Opd) : CV := fun _ e st => k_ixStr x i e st
def i_ixArr (agg : Bool) (len : Nat) (w : Nat) (x : Opd) (i : Opd) : CV := fun _ e st => k_ixArr agg len w x i e st
def i_look (kk : Nat) (z : AV) (ok : Bool) (x : Opd) (i : Opd) : CV := fun _ e st => k_look kk z ok x i e st
def i_mupd (kk : Nat) (x : Opd) (k : Opd) (v : Opd) : CV := fun _ e st => k_mupd kk x k v e st
def i_mdel (kk : Nat) (x : Opd) (k : Opd) : CV := fun _ e st => k_mdel kk x k e st
def i_len (k : Nat) (x : Opd) : CV := fun _ e st => k_len k x e st
def i_app (w : Nat) (bytes : Nat) (s : Opd) (x : Opd) : CV := fun _ e st => k_app w bytes s x e st
def i_cpy (w : Nat) (d : Opd) (x : Opd) : CV := fun _ e st => k_cpy w d x e st
def i_mnx (mx : Bool) (x : Opd) (y : Opd) : CV := fun _ e st => k_mnx mx x y e st
def i_ext (x : Opd) (i : Nat) : CV := fun _ e st => k_ext x i e st
noncomputable def i_call (m : CM) (f : Opd) (args : List Opd) : CV := fun O e st => kCallV O m (gets e args) st (f.get e)
def i_w (k : WK) (o : PO) (ih : CV) : CV := fun O e st => evalW e st o k
noncomputable def kPI (o : PO) : CV := PO.rec (motive := fun _ => CV) i_mv i_pick i_onil i_box i_boxnil i_build i_bslice i_ld i_st i_nilck i_bin i_eqs i_un i_cint i_cstr i_b2s i_mkf i_mkmap i_mkslice i_slcS i_slc i_fadr i_fld i_ixS i_ixA i_ixStr i_ixArr i_look i_mupd i_mdel i_len i_app i_cpy i_mnx i_ext i_call i_w o
theorem kPI_eq (O : Orc) (e : Env) (st : St) (o : PO) : kPI o O e st = evalPI O e st o := by
 cases o with
 | call m f args => exact kCallV_eq ..
 | w k o => rfl
 | _ => rfl
def kOwn (op : PO) (O : Orc) (e : Env) (st : St) : Option (AV × St) := if op.reads = true then (evalPO e st.mask op).bind (pureK st) else none
noncomputable def kI (i : PI) (O : Orc) (e : Env) (st : St) : Option (AV × St) := Bool.rec (motive := fun _ => Orc → Env → St → Option (AV × St)) (kPI i.op) (kOwn i.op) i.own O e st
theorem kI_eq (O : Orc) (e : Env) (st : St) (i : PI) : kI i O e st = evalI O e st i := by
 obtain ⟨d, g, w, op⟩ := i
 cases w
 ·exact kPI_eq O e st op
 ·rfl
abbrev RunO := Orc → RunI
def kNil : RunO := fun _ e st => some (e, st)
noncomputable def kW1 (i : PI) (K : RunO) (O : Orc) (e : Env) (st : St) : Option (Env × St) := (kI i O e st).bind (runK (K O) e i.dst)
noncomputable def kW0 (i : PI) (K : RunO) (O : Orc) (e : Env) (st : St) : Option (Env × St) := K O (setD e i.dst .undef) st
noncomputable def kCons (i : PI) (_ : List PI) (K : RunO) : RunO := fun O e st => (wantedV e i.guard).bind fun b => Bool.rec (motive := fun _ => PI → RunO → RunO) kW0 kW1 b i K O e st
noncomputable def kIs (is : List PI) : RunO := List.rec (motive := fun _ => RunO) kNil kCons is
theorem kIs_eq (O : Orc) : ∀ is, kIs is O = runIs O is
 | [] => rfl
 | i :: is => by
  funext e st
  have ih := kIs_eq O is
  show (wantedV e i.guard).bind (fun b => Bool.rec (motive := fun _ => PI → RunO → RunO) kW0 kW1 b i (kIs is) O e st) = (wantedV e i.guard).bind (runW O i (runIs O is) e st)
  congr 1
  funext b
  cases b
  ·show kIs is O (setD e i.dst .undef) st = _
   rw [ih]; rfl
  ·show (kI i O e st).bind (runK (kIs is O) e i.dst) = _
   rw [ih, kI_eq]; rfl
abbrev RunC := Orc → (Run → Run) → Run
def c_skip : RunC := fun _ _ e st => some (.norm, e, st)
def c_ret : RunC := fun _ _ e st => some (.ret, e, st)
def c_exit (id : Nat) : RunC := fun _ _ e st => some (.ex id, e, st)
def c_seq (_ _ : PC) (F G : RunC) : RunC := fun O I e st => (F O I e st).bind (seqK (G O I))
def c_ite (c : Opd) (_ _ : PC) (F G : RunC) : RunC := fun O I e st => iteV (F O I) (G O I) e st (c.get e)
def c_block (id : Nat) (_ : PC) (F : RunC) : RunC := fun O I e st => (F O I e st).bind (blockK id)
def c_loop (_ : PC) (F : RunC) : RunC := fun O I e st => I (F O I) e st
noncomputable def c_reg (keep : List Nat) (is : List PI) : RunC := fun O _ e st => (kIs is O e st).bind (regK keep)
noncomputable def c_regH (js keep : List Nat) (is : List PI) : RunC := fun O _ e st => (padH js st).bind fun st => (kIs is O e st).bind (regK keep)
noncomputable def kExec (c : PC) : RunC := PC.rec (motive := fun _ => RunC) c_skip c_ret c_exit c_seq c_ite c_block c_loop c_reg c_regH c
theorem kExec_eq (O : Orc) (I : Run → Run) : ∀ c, kExec c O I = exec O I c
 | .skip => rfl
 | .ret => rfl
 | .exit _ => rfl
 | .seq a b => by
  funext e st
  show (kExec a O I e st).bind (seqK (kExec b O I)) = _
  rw [kExec_eq O I a, kExec_eq O I b]; rfl
 | .ite c a b => by
  funext e st
  show iteV (kExec a O I) (kExec b O I) e st (c.get e) = _
  rw [kExec_eq O I a, kExec_eq O I b]; rfl
 | .block id b => by
  funext e st
  show (kExec b O I e st).bind (blockK id) = _
  rw [kExec_eq O I b]; rfl
 | .loop b => by
  funext e st
  show I (kExec b O I) e st = _
  rw [kExec_eq O I b]; rfl
 | .reg keep is => by
  funext e st
  show (kIs is O e st).bind (regK keep) = _
  rw [kIs_eq O is]; rfl
 | .regH js keep is => by
  funext e st
  show ((padH js st).bind fun st => (kIs is O e st).bind (regK keep)) = _
  rw [kIs_eq O is]; rfl
noncomputable def kBody (pf : PF) (O : Orc) (I : Run → Run) (args : List AV) (st : St) : Option (AV × St) :=
 (kExec pf.body O I (initEnv 0 args) (if pf.keep = true then st else st.push)).bind (endK pf.keep pf.res)
def kBase (o : List AV → St → Option (AV × St)) (O : Orc) (I : Run → Run) (args : List AV) (st : St) : Option (AV × St) := o args st
noncomputable def kEnt (x : Ent) : Orc → (Run → Run) → List AV → St → Option (AV × St) := Ent.rec (motive := fun _ => Orc → (Run → Run) → List AV → St → Option (AV × St)) kBody kBase x
theorem kEnt_eq (O : Orc) (I : Run → Run) (args : List AV) (st : St) (x : Ent) : kEnt x O I args st = entK O I args st x := by
 cases x with
 | pf p => show (kExec p.body O I _ _).bind _ = _; rw [kExec_eq]; rfl
 | base o => rfl
noncomputable def fLook (l : List (FuncId × Ent)) : FuncId → Option Ent := List.rec (motive := fun _ => FuncId → Option Ent) (fun _ => none) (fun p _ ih f => Bool.rec (motive := fun _ => Option Ent) (ih f) (some p.2) (Nat.beq p.1 f)) l
theorem fLook_eq : ∀ l, fLook l = lookT l
 | [] => rfl
 | p :: l => by
  funext f
  show Bool.rec (motive := fun _ => Option Ent) (fLook l f) (some p.2) (Nat.beq p.1 f) = if p.1 = f then some p.2 else lookT l f
  rw [fLook_eq l]
  by_cases h : p.1 = f
  ·rw [if_pos h, h]; simp
  ·rw [if_neg h]
   have : Nat.beq p.1 f = false := by
    cases q : Nat.beq p.1 f with
    | true => exact absurd (Nat.eq_of_beq_eq_true q) h
    | false => rfl
   rw [this]
end Go.QAbs
namespace Go.QAbs
end Go.QAbs
namespace Go.QAbs
abbrev Cut1 := FuncId → Option (List AV → St → Option (AV × St))
def ShOk (T : Tab) (sh : Cut1) : Prop := ∀ f o args st r, sh f = some o → o args st = some r → S T f args st = some r
noncomputable def shLook (l : List (FuncId × (List AV → St → Option (AV × St)))) : Cut1 := List.rec (motive := fun _ => Cut1) (fun _ => none) (fun p _ ih f => Bool.rec (motive := fun _ => Option (List AV → St → Option (AV × St))) (ih f) (some p.2) (Nat.beq p.1 f)) l
def ShAll (T : Tab) : List (FuncId × (List AV → St → Option (AV × St))) → Prop
 | [] => True
 | p :: l => (∀ args st r, p.2 args st = some r → S T p.1 args st = some r) ∧ ShAll T l
theorem shLook_ok {T : Tab} : ∀ {l : List (FuncId × (List AV → St → Option (AV × St)))}, ShAll T l → ShOk T (shLook l)
 | [], _ => fun f o args st r h => by simp [shLook] at h
 | p :: l, h => fun f o args st r hf ho => by
  have hf : Bool.rec (motive := fun _ => Option (List AV → St → Option (AV × St))) (shLook l f) (some p.2) (Nat.beq p.1 f) = some o := hf
  cases q : Nat.beq p.1 f with
  | true =>
   rw [q] at hf
   have hf : some p.2 = some o := hf
   simp only [Option.some.injEq] at hf
   subst hf
   have := Nat.eq_of_beq_eq_true q
   subst this
   exact h.1 args st r ho
  | false =>
   rw [q] at hf
   exact shLook_ok h.2 f o args st r hf ho
abbrev Rn := (Unit → Option (AV × St)) → Option (AV × St)
def shN : Rn := fun k => k ()
def shS (r : AV × St) : Rn := fun _ => some r
noncomputable def shK (r : Option (AV × St)) : Rn := Option.rec (motive := fun _ => Rn) shN shS r
noncomputable def shO (o : Option (List AV → St → Option (AV × St))) (args : List AV) (st : St) : Rn :=
 Option.rec (motive := fun _ => List AV → St → Rn) (fun _ _ => shN) (fun o args st => shK (o args st)) o args st
noncomputable def xRun (sh : Cut1) (T : Tab) (n : Nat) : Orc := Nat.rec (motive := fun _ => Orc) (fun _ _ _ => none) (fun n ih f args st => shO (sh f) args st fun _ => (T f).bind fun x => kEnt x ih (fun F => iter F n) args st) n
theorem xRun_ok {T : Tab} {sh : Cut1} (hs : ShOk T sh) : ∀ (n : Nat) (f : FuncId) (args : List AV) (st : St) (r : AV × St), xRun sh T n f args st = some r → S T f args st = some r
 | 0, f, args, st, r, h => by
  have h : (none : Option (AV × St)) = some r := h
  simp at h
 | n + 1, f, args, st, r, h => by
  have h : shO (sh f) args st (fun _ => (T f).bind fun x => kEnt x (xRun sh T n) (fun F => iter F n) args st) = some r := h
  have key : ((T f).bind fun x => kEnt x (xRun sh T n) (fun F => iter F n) args st) = some r → S T f args st = some r := by
   intro h
   simp only [Option.bind_eq_some_iff] at h
   obtain ⟨x, hx, h⟩ := h
   rw [kEnt_eq] at h
   cases x with
   | base o => exact S_base hx h
   | pf p =>
    refine S_of hx ?_
    have h : callBody (xRun sh T n) (itN n) p args st = some r := h
    exact callBody_mono (O := xRun sh T n) (O' := S T) (I := itN n) (J := itS) (fun f a st r q => xRun_ok hs n f a st r q) (fun _ _ h _ _ _ q => itS_iff.2 ⟨n, iter_mono h (Nat.le_refl n) q⟩) h
  cases hf : sh f with
  | none => rw [hf] at h; exact key h
  | some o =>
   rw [hf] at h
   have h : shK (o args st) (fun _ => (T f).bind fun x => kEnt x (xRun sh T n) (fun F => iter F n) args st) = some r := h
   cases ho : o args st with
   | none => rw [ho] at h; exact key h
   | some q =>
    rw [ho] at h
    have h : some q = some r := h
    simp only [Option.some.injEq] at h
    subst h
    exact hs f o args st q hf ho
section
variable {l : List (FuncId × Ent)} {sh : Cut1} {k : List Fr} {Q : Post} {e e1 : Env} {st st1 : St}
theorem rx_true (hs : ShOk (lookT l) sh) {f : FuncId} {args : List AV} (n : Nat) (h : isTrue (xRun sh (fLook l) n f args st) = true) : ∃ st', S (lookT l) f args st = some (.bool true, st') := by
 unfold isTrue at h
 split at h
 ·rename_i st' hq
  rw [fLook_eq] at hq
  exact ⟨st', xRun_ok hs n _ _ _ _ hq⟩
 ·simp at h
end
end Go.QAbs
namespace Go.Q17
open Go Go.QAbs
set_option maxRecDepth 100000
def Tb : Tab := lookT ((F_slices_Clone_api_Kid_api_Kid, .base (cloneO 4)) :: tabL)
structure Mea where
 b : Int
 r : Int
 l : Int
deriving DecidableEq
def Mea.zero : Mea := ⟨0, 0, 0⟩
def Mea.add (x y : Mea) : Mea := ⟨x.b + y.b, x.r + y.r, x.l + y.l⟩
def Mea.av (m : Mea) : AV := .agg [.int .i64 m.b, .int .i64 m.r, .int .i64 m.l]
theorem Mea.ext' {x y : Mea} (h1 : x.b = y.b) (h2 : x.r = y.r) (h3 : x.l = y.l) : x = y := by
 cases x; cases y; simp_all
def beginsB (b : UInt8) : Bool := b.toNat < 128 || 191 < b.toNat
def feedsB (b : UInt8) : Bool := b.toNat == 10
def meaT (s : List UInt8) : Mea := ⟨s.length, s.countP beginsB, s.countP feedsB⟩
theorem every_c (b : UInt8) (st : St) : S Tb F_measure_every [.int .u8 b.toNat] st = some (.bool true, st) := by
 refine s_of rfl (fun A hA => ?_)
 repeat' (first | refine ru_seq ?_ | refine ru_reg ?_ | refine is_mv rfl ?_ | refine is_nil rfl ?_ | refine rk_seq ?_ | refine ru_ret ?_ | refine rk_nil ?_)
 refine end_st hA (by first | exact .inl rfl | exact .inr rfl) rfl rfl rfl rfl ?_
 rfl
theorem begins_c (b : UInt8) (st : St) : S Tb F_measure_begins [.int .u8 b.toNat] st = some (.bool (beginsB b), st) := by
 refine s_of rfl (fun A hA => ?_)
 repeat' (first | refine ru_seq ?_ | refine ru_reg ?_ | refine is_mv rfl ?_ | refine is_gT rfl ?_ | refine is_gF rfl rfl ?_ | refine is_pick rfl rfl rfl rfl ?_ | refine is_nil rfl ?_ | refine rk_seq ?_ | (refine is_lss rfl rfl (fun _ => ?_) (fun _ => ?_) <;> try (exfalso; omega)) | (refine is_gtr rfl rfl (fun _ => ?_) (fun _ => ?_) <;> try (exfalso; omega)) | refine ru_ret ?_ | refine rk_nil ?_)
 all_goals refine end_st hA (by first | exact .inl rfl | exact .inr rfl) rfl rfl rfl rfl ?_
 all_goals (unfold beginsB; simp; omega)
theorem feeds_c (b : UInt8) (st : St) : S Tb F_measure_feeds [.int .u8 b.toNat] st = some (.bool (feedsB b), st) := by
 refine s_of rfl (fun A hA => ?_)
 repeat' (first | refine ru_seq ?_ | refine ru_reg ?_ | refine is_mv rfl ?_ | refine is_nil rfl ?_ | refine rk_seq ?_ | (refine is_eql rfl rfl (fun _ => ?_) (fun _ => ?_) <;> try (exfalso; omega)) | refine ru_ret ?_ | refine rk_nil ?_)
 all_goals refine end_st hA (by first | exact .inl rfl | exact .inr rfl) rfl rfl rfl rfl ?_
 all_goals (unfold feedsB; simp; omega)
def Tells (f : FuncId) (p : UInt8 → Bool) : Prop := ∀ b st, S Tb f [.int .u8 b.toNat] st = some (.bool (p b), st)
theorem getB {s : List UInt8} {i : Nat} (h : i < s.length) : ∃ b, s[i]? = some b ∧ s.take (i + 1) = s.take i ++ [b] := by
 refine ⟨s[i], by simp [h], ?_⟩
 rw [List.take_add_one]; simp [h]
theorem count_c (f : FuncId) (p : UInt8 → Bool) (hf : Tells f p) (s : List UInt8) (hs : s.length < 4294967296) (st : St) : S Tb F_measure_count [.str s, .func (.func f) [] []] st = some (.int .i64 (s.countP p), st) := by
 refine s_of rfl (fun A hA => ?_)
 repeat' (first | refine ru_seq ?_ | refine ru_reg ?_ | refine is_mv rfl ?_ | refine is_nil rfl ?_ | refine rk_seq ?_ | refine is_lenS rfl ?_ | refine ru_block ?_)
 refine ru_loopP (α := Nat) (fun i => [(0, .str s), (1, .func (.func f) [] []), (5, .int .i64 ((s.take i).countP p)), (8, .int .i64 s.length), (9, .int .i64 i)])
  (fun i => ⟨A, false, []⟩) (fun i => i ≤ s.length) (fun i => s.length - i) 0 rfl rfl (Nat.zero_le _) ?_
 intro i hi
 repeat' (first | refine ru_seq ?_ | refine ru_reg ?_ | refine is_mv rfl ?_ | refine is_nil rfl ?_ | refine rk_seq ?_ | (refine is_lss rfl rfl (fun _ => ?_) (fun _ => ?_) <;> try (exfalso; omega)) | refine ru_iteT rfl ?_ | refine ru_iteF rfl ?_ | refine ru_skip ?_ | refine ru_ret ?_ | refine ru_exit ?_ | refine ru_block ?_ | refine rk_nil ?_ | refine rk_seq_ex ?_ | refine rk_blk_eq rfl ?_ | refine rk_inv_ex ?_)
 ·rename_i hlt
  obtain ⟨b, hb, ht⟩ := getB (s := s) (i := i) (by omega)
  have hc := List.countP_le_length (p := p) (l := s.take i)
  have hl := List.length_take_le i s
  refine is_ixStr rfl rfl (by omega) (by simpa using hb) ?_
  refine is_callE rfl rfl rfl (hf b _) ?_
  cases hp : p b
  ·repeat' (first | refine ru_reg ?_ | refine is_mv rfl ?_ | refine is_nil rfl ?_ | refine rk_seq ?_ | refine ru_iteF rfl ?_ | refine is_addS rfl rfl (by omega) ?_ | refine ru_skip ?_ | refine rk_blk ?_ | refine rk_inv ?_)
   refine ⟨i + 1, ⟨?_, rfl⟩, by omega, by omega⟩
   rw [ht, List.countP_append]; simp [hp]
  ·repeat' (first | refine ru_reg ?_ | refine is_mv rfl ?_ | refine is_nil rfl ?_ | refine rk_seq ?_ | refine ru_iteT rfl ?_ | refine is_addS rfl rfl (by omega) ?_ | refine rk_blk ?_ | refine rk_inv ?_)
   refine ⟨i + 1, ⟨?_, rfl⟩, by omega, by omega⟩
   rw [ht, List.countP_append]; simp [hp]
 ·refine end_st hA (by first | exact .inl rfl | exact .inr rfl) rfl rfl rfl rfl ?_
  rw [List.take_of_length_le (by omega)]
theorem eqv3 (a b c x y z : Int) : eqV [(0, 0), (1, 0), (2, 0)] 0 (.agg [.int .i64 a, .int .i64 b, .int .i64 c]) (.agg [.int .i64 x, .int .i64 y, .int .i64 z]) = some (decide (a = x ∧ b = y ∧ c = z)) := by
 show (if decide (a = x) = true then (if decide (b = y) = true then (if decide (c = z) = true then some true else some false) else some false) else some false) = _
 by_cases h1 : a = x <;> by_cases h2 : b = y <;> by_cases h3 : c = z <;> simp [h1, h2, h3]
theorem measured_c (m : Mea) (st : St) : S Tb F_measure_measured [m.av] st = some (m.av, st) := by
 refine s_of rfl (fun A hA => ?_)
 unfold Mea.av
 repeat' (first | refine ru_seq ?_ | refine ru_reg ?_ | refine is_ldc rfl rfl rfl rfl ?_ | refine is_nil rfl ?_ | refine rk_seq ?_ | refine ru_iteT rfl ?_ | refine ru_iteF rfl ?_ | refine is_buildO rfl rfl rfl ?_ | refine is_box rfl rfl rfl ?_ | refine is_stb rfl rfl rfl rfl rfl rfl ?_ | refine is_ixA rfl rfl rfl ?_ | (refine is_eqsB rfl rfl (eqv3 _ _ _ 0 0 0) (fun _ => ?_) (fun _ => ?_)) | refine ru_skip ?_ | refine ru_ret ?_ | refine rk_nil ?_ | refine rk_seq_ret ?_)
 ·rename_i h
  refine end_c hA (by first | exact .inl rfl | exact .inr rfl) rfl rfl rfl rfl rfl ?_
  rw [h.1, h.2.1, h.2.2]
 ·refine end_c hA (by first | exact .inl rfl | exact .inr rfl) rfl rfl rfl rfl rfl ?_
  rfl
theorem Of_c (s : List UInt8) (hs : s.length < 4294967296) (st : St) : S Tb F_measure_Of [.str s] st = some ((meaT s).av, st) := by
 refine s_of rfl (fun A hA => ?_)
 have h1 := fun st => count_c F_measure_every (fun _ => true) every_c s hs st
 have h2 := fun st => count_c F_measure_begins beginsB begins_c s hs st
 have h3 := fun st => count_c F_measure_feeds feedsB feeds_c s hs st
 repeat' (first | refine ru_seq ?_ | refine ru_reg ?_ | refine is_mv rfl ?_ | refine is_ldc rfl rfl rfl rfl ?_ | refine is_nil rfl ?_ | refine rk_seq ?_ | (refine is_lss rfl rfl (fun _ => ?_) (fun _ => ?_) <;> try (exfalso; omega)) | refine ru_iteT rfl ?_ | refine ru_iteF rfl ?_ | refine is_addS rfl rfl (by omega) ?_ | refine is_buildO rfl rfl rfl ?_ | refine is_box rfl rfl rfl ?_ | refine is_stb rfl rfl rfl rfl rfl rfl ?_ | refine is_ixArr rfl rfl rfl ?_ | refine is_ixA rfl rfl rfl ?_ | refine is_callE rfl rfl rfl (h1 _) ?_ | refine is_callE rfl rfl rfl (h2 _) ?_ | refine is_callE rfl rfl rfl (h3 _) ?_ | refine is_callE rfl rfl rfl (measured_c ⟨_, _, _⟩ _) ?_ | refine ru_unroll ?_ | refine ru_skip ?_ | refine ru_ret ?_ | refine ru_exit ?_ | refine ru_block ?_ | refine rk_nil ?_ | refine rk_seq_ex ?_ | refine rk_blk ?_ | refine rk_blk_eq rfl ?_)
 refine end_c hA (by first | exact .inl rfl | exact .inr rfl) rfl rfl rfl rfl rfl ?_
 simp [Mea.av, meaT]
theorem wrapU64 {n : Nat} (h : n < 18446744073709551616) : IntKind.u64.wrap (n : Int) = n := by
 have e1 : IntKind.u64.signed = false := rfl
 have e2 : IntKind.u64.bits = 64 := rfl
 simp only [IntKind.wrap, e1, e2, Bool.false_and, if_false, Bool.false_eq_true]
 omega
theorem wrapI64 {n : Nat} (h : n < 9223372036854775808) : IntKind.i64.wrap (n : Int) = n := wrap64 (by omega) (by omega)
theorem and16 {h : Nat} (hh : h < 18446744073709551616) : binV .and (.int .u64 h) (.int .u64 65535) = some (.int .u64 ((h % 65536 : Nat) : Int)) := by
 have e : (BitVec.ofInt 64 (h : Int) &&& BitVec.ofInt 64 65535).toNat = h % 65536 := by
  have e1 : BitVec.ofInt 64 (h : Int) = BitVec.ofNat 64 h := by simp
  have e2 : BitVec.ofInt 64 65535 = BitVec.ofNat 64 65535 := rfl
  rw [e1, e2, BitVec.toNat_and, BitVec.toNat_ofNat, BitVec.toNat_ofNat, Nat.mod_eq_of_lt (by omega : h < 2 ^ 64)]
  exact Nat.and_two_pow_sub_one_eq_mod h 16
 show some (AV.int .u64 (IntKind.u64.wrap ((BitVec.ofInt 64 (h : Int) &&& BitVec.ofInt 64 65535).toNat : Int))) = _
 rw [e, wrapU64 (by omega)]
theorem shr16 {h : Nat} : binV .shr (.int .u64 h) (.int .u64 16) = some (.int .u64 ((h / 65536 : Nat) : Int)) := by
 show some (AV.int .u64 ((h : Int).fdiv (2 ^ 16))) = _
 rw [Int.fdiv_eq_ediv_of_nonneg _ (by decide)]; rfl
theorem parts_c (h : Nat) (hh : h < 18446744073709551616) (st : St) : S Tb F_handle_parts [.int .u64 h] st = some (.tup [.int .i64 ((h % 65536 : Nat) : Int), .int .u64 ((h / 65536 : Nat) : Int)], st) := by
 refine s_of rfl (fun A hA => ?_)
 repeat' (first | refine ru_seq ?_ | refine ru_reg ?_ | refine is_mv rfl ?_ | refine is_nil rfl ?_ | refine rk_seq ?_ | refine is_bin rfl rfl (and16 hh) ?_ | refine is_bin rfl rfl shr16 ?_ | refine is_cintW rfl (wrapI64 (by omega)) ?_ | refine ru_ret ?_ | refine rk_nil ?_)
 refine end_st hA (by first | exact .inl rfl | exact .inr rfl) rfl rfl rfl rfl ?_
 rfl
abbrev handleP (h : Nat) : Prop := h % 65536 < 16384 ∧ 1 ≤ h / 65536 ∧ h / 65536 ≤ 4294967295
theorem hCheck_ok (h : Nat) (hh : handleP h) (st : St) : S Tb F_handle_Check [.int .u64 h] st = some (.int .i64 0, st) := by
 refine s_of rfl (fun A hA => ?_)
 repeat' (first | refine ru_seq ?_ | refine ru_reg ?_ | refine is_mv rfl ?_ | refine is_gT rfl ?_ | refine is_pick rfl rfl rfl rfl ?_ | refine is_ext rfl rfl ?_ | refine is_nil rfl ?_ | refine rk_seq ?_ | (refine is_lss rfl rfl (fun _ => ?_) (fun _ => ?_) <;> try (exfalso; omega)) | (refine is_gtr rfl rfl (fun _ => ?_) (fun _ => ?_) <;> try (exfalso; omega)) | (refine is_geq rfl rfl (fun _ => ?_) (fun _ => ?_) <;> try (exfalso; omega)) | refine ru_iteF rfl ?_ | refine is_callE rfl rfl rfl (parts_c h (by omega) _) ?_ | refine ru_skip ?_ | refine ru_ret ?_ | refine rk_nil ?_)
 all_goals try (exfalso; omega)
 all_goals refine end_st hA (by first | exact .inl rfl | exact .inr rfl) rfl rfl rfl rfl ?_
 all_goals rfl
end Go.Q17
namespace Go.Q17
open Go Go.QAbs
set_option maxRecDepth 100000
structure Kid where
 at_ : Nat
 m : Mea
deriving DecidableEq
def Kid.av (k : Kid) : AV := .agg [.int .u64 k.at_, .int .i64 k.m.b, .int .i64 k.m.r, .int .i64 k.m.l]
def slV {α : Type} (f : α → AV) : Option (List α) → AV
 | none => .nils
 | some l => .lit (l.map f)
structure Nd where
 h : Nat
 text : List UInt8
 kids : Option (List Kid)
def Nd.av (x : Nd) : AV := .agg [.int .i64 x.h, .str x.text, slV Kid.av x.kids]
def Nd.ks (x : Nd) : List Kid := x.kids.getD []
def leastB (h : Nat) : Nat := 8 * 2 ^ h
def mostB : Nat → Nat
 | 0 => 16
 | h + 1 => min (mostB h * 4) 65536
theorem mostB_le : ∀ h, 16 ≤ mostB h ∧ mostB h ≤ 65536
 | 0 => by simp [mostB]
 | h + 1 => by have := mostB_le h; simp only [mostB]; omega
theorem leastB_le {h : Nat} (hh : h ≤ 16) : 8 ≤ leastB h ∧ leastB h ≤ 524288 := by
 have h1 : 2 ^ h ≤ 2 ^ 16 := Nat.pow_le_pow_right (by decide) hh
 have h2 : 1 ≤ 2 ^ h := Nat.one_le_two_pow
 unfold leastB; omega
theorem leastB_succ (h : Nat) : leastB (h + 1) = leastB h * 2 := by unfold leastB; rw [Nat.pow_succ]; omega
theorem bounds_c (n : Nat) (i : Int) (hi : i = n) (hn : n ≤ 16) (st : St) : S Tb F_node_bounds [.int .i64 i] st = some (.tup [.int .i64 (leastB n), .int .i64 (mostB n)], st) := by
 subst hi
 refine s_of rfl (fun A hA => ?_)
 repeat' (first | refine ru_seq ?_ | refine ru_reg ?_ | refine is_mv rfl ?_ | refine is_nil rfl ?_ | refine rk_seq ?_ | refine ru_block ?_)
 refine ru_loopP (α := Nat) (fun i => [(2, .int .i64 (leastB i)), (3, .int .i64 (mostB i)), (4, .int .i64 n), (5, .int .i64 i)]) (fun i => ⟨A, false, []⟩) (fun i => i ≤ n) (fun i => n - i) 0 rfl rfl (by omega) ?_
 intro i hi
 have hl := leastB_le (h := i) (by omega)
 have hm := mostB_le i
 repeat' (first | refine ru_seq ?_ | refine ru_reg ?_ | refine is_mv rfl ?_ | refine is_nil rfl ?_ | refine rk_seq ?_ | (refine is_lss rfl rfl (fun _ => ?_) (fun _ => ?_) <;> try (exfalso; omega)) | refine ru_iteT rfl ?_ | refine ru_iteF rfl ?_ | refine is_addS rfl rfl (by omega) ?_ | refine is_mulS rfl rfl (by omega) ?_ | refine is_mnx rfl rfl ?_ | refine ru_skip ?_ | refine ru_ret ?_ | refine ru_exit ?_ | refine ru_block ?_ | refine rk_nil ?_ | refine rk_seq_ex ?_ | refine rk_blk ?_ | refine rk_blk_eq rfl ?_ | refine rk_inv ?_ | refine rk_inv_ex ?_)
 ·refine ⟨i + 1, ⟨?_, rfl⟩, by omega, by omega⟩
  rw [leastB_succ]
  simp only [mostB, Bool.false_eq_true, if_false]
  rw [show ((min (mostB i * 4) 65536 : Nat) : Int) = min ((mostB i : Int) * 4) 65536 by omega]
  rfl
 ·have : i = n := by omega
  subst this
  refine end_st hA (by first | exact .inl rfl | exact .inr rfl) rfl rfl rfl rfl ?_
  simp only [Bool.false_eq_true, if_false]
  rw [Int.min_eq_left (by omega)]
structure KidOk (h : Nat) (k : Kid) : Prop where
 at_ : handleP k.at_
 lo : (leastB h : Int) ≤ k.m.b
 hi : k.m.b ≤ mostB h
 r0 : 0 ≤ k.m.r
 rb : k.m.r ≤ k.m.b
 l0 : 0 ≤ k.m.l
 lr : k.m.l ≤ k.m.r
theorem formed_leaf (x : Nd) (h0 : x.h = 0) (h1 : 1 ≤ x.text.length ∧ x.text.length ≤ 16) (h2 : x.ks = []) (st : St) : S Tb F_node_formed [x.av] st = some (.bool true, st) := by
 obtain ⟨h, text, kids⟩ := x
 simp only at h0 h1
 subst h0
 refine s_of rfl (fun A hA => ?_)
 cases kids with
 | none =>
  simp only [Nd.av, slV]
  repeat' (first | refine ru_seq ?_ | refine ru_reg ?_ | refine is_mv rfl ?_ | refine is_fadr rfl rfl ?_ | refine is_ldc rfl rfl rfl rfl ?_ | refine is_gT rfl ?_ | refine is_pick rfl rfl rfl rfl ?_ | refine is_nil rfl ?_ | refine rk_seq ?_ | refine is_lenS rfl ?_ | refine is_lenN rfl ?_ | (refine is_leq rfl rfl (fun _ => ?_) (fun _ => ?_) <;> try (exfalso; omega)) | (refine is_geq rfl rfl (fun _ => ?_) (fun _ => ?_) <;> try (exfalso; omega)) | (refine is_eql rfl rfl (fun _ => ?_) (fun _ => ?_) <;> try (exfalso; omega)) | refine ru_iteT rfl ?_ | refine is_box rfl rfl rfl ?_ | refine ru_ret ?_ | refine rk_nil ?_ | refine rk_seq_ret ?_)
  refine end_st hA (by first | exact .inl rfl | exact .inr rfl) rfl rfl rfl rfl ?_
  rfl
 | some l =>
  have : l = [] := h2
  subst this
  simp only [Nd.av, slV]
  repeat' (first | refine ru_seq ?_ | refine ru_reg ?_ | refine is_mv rfl ?_ | refine is_fadr rfl rfl ?_ | refine is_ldc rfl rfl rfl rfl ?_ | refine is_gT rfl ?_ | refine is_pick rfl rfl rfl rfl ?_ | refine is_nil rfl ?_ | refine rk_seq ?_ | refine is_lenS rfl ?_ | refine is_lenF rfl rfl ?_ | (refine is_leq rfl rfl (fun _ => ?_) (fun _ => ?_) <;> try (exfalso; omega)) | (refine is_geq rfl rfl (fun _ => ?_) (fun _ => ?_) <;> try (exfalso; omega)) | (refine is_eql rfl rfl (fun _ => ?_) (fun _ => ?_) <;> try (exfalso; omega)) | refine ru_iteT rfl ?_ | refine is_box rfl rfl rfl ?_ | refine ru_ret ?_ | refine rk_nil ?_ | refine rk_seq_ret ?_)
  refine end_st hA (by first | exact .inl rfl | exact .inr rfl) rfl rfl rfl rfl ?_
  rfl
set_option maxHeartbeats 4000000 in
theorem formed_in (n : Nat) (hn : n ≤ 15) (ks : List Kid) (hk : 2 ≤ ks.length ∧ ks.length ≤ 4) (hs : ∀ k ∈ ks, KidOk n k) (st : St) : S Tb F_node_formed [Nd.av ⟨n + 1, [], some ks⟩] st = some (.bool true, st) := by
 refine s_of rfl (fun A hA => ?_)
 simp only [Nd.av, slV]
 repeat' (first | refine ru_seq ?_ | refine ru_reg ?_ | refine is_mv rfl ?_ | refine is_fadr rfl rfl ?_ | refine is_ldc rfl rfl rfl rfl ?_ | refine is_gT rfl ?_ | refine is_pick rfl rfl rfl rfl ?_ | refine is_ext rfl rfl ?_ | refine is_nil rfl ?_ | refine rk_seq ?_ | refine is_lenM rfl ?_ | (refine is_lss rfl rfl (fun _ => ?_) (fun _ => ?_) <;> try (exfalso; omega)) | (refine is_gtr rfl rfl (fun _ => ?_) (fun _ => ?_) <;> try (exfalso; omega)) | (refine is_eql rfl rfl (fun _ => ?_) (fun _ => ?_) <;> try (exfalso; omega)) | (refine is_neqS rfl rfl (fun _ => ?_) (fun _ => ?_) <;> try contradiction) | refine ru_iteF rfl ?_ | refine is_subS rfl rfl (by omega) ?_ | refine is_box rfl rfl rfl ?_ | refine is_callE rfl rfl rfl (bounds_c n _ (by omega) (by omega) _) ?_ | refine ru_skip ?_ | refine ru_block ?_)
 refine ru_loopP (α := Nat × List Blk) (fun p => [(3, .int .i64 (leastB n)), (4, .int .i64 (mostB n)), (59, .lit (ks.map Kid.av)), (60, .int .i64 ks.length), (61, .int .i64 p.1)]) (fun p => ⟨A, false, .arr 3 0 [.agg [.int .i64 ↑(n + 1), .str [], .lit (ks.map Kid.av)]] :: p.2⟩) (fun p => p.1 ≤ ks.length) (fun p => ks.length - p.1) (0, []) rfl rfl (by simp) ?_
 rintro ⟨i, G⟩ hi
 simp only at hi ⊢
 repeat' (first | refine ru_seq ?_ | refine ru_reg ?_ | refine is_mv rfl ?_ | refine is_fadr rfl rfl ?_ | refine is_nil rfl ?_ | refine rk_seq ?_ | refine is_ldT rfl rfl rfl ?_ | refine is_ldl rfl rfl ?_ | refine is_ixM rfl rfl (by omega) (fun _ => rfl) (fun _ _ => ?_) | (refine is_lss rfl rfl (fun _ => ?_) (fun _ => ?_) <;> try (exfalso; omega)) | refine ru_iteT rfl ?_ | refine ru_iteF rfl ?_ | refine is_boxG rfl rfl rfl ?_ | refine is_stT rfl rfl rfl rfl rfl rfl ?_ | refine ru_skip ?_ | refine ru_ret ?_ | refine ru_exit ?_ | refine ru_block ?_ | refine rk_nil ?_ | refine rk_seq_ex ?_ | refine rk_blk_eq rfl ?_ | refine rk_inv_ex ?_)
 ·rename_i k hk'
  obtain ⟨a1, b1, c1, d1, e1, f1, g1⟩ := hs k (List.mem_of_getElem? hk')
  repeat' (first | refine ru_reg ?_ | refine is_mv rfl ?_ | refine is_fadr rfl rfl ?_ | refine is_gT rfl ?_ | refine is_pick rfl rfl rfl rfl ?_ | refine is_nil rfl ?_ | refine rk_seq ?_ | refine is_ldT rfl rfl rfl ?_ | (refine is_lss rfl rfl (fun _ => ?_) (fun _ => ?_) <;> try (exfalso; omega)) | (refine is_gtr rfl rfl (fun _ => ?_) (fun _ => ?_) <;> try (exfalso; omega)) | (refine is_neq rfl rfl (fun _ => ?_) (fun _ => ?_) <;> try (exfalso; omega)) | refine ru_iteF rfl ?_ | refine is_addS rfl rfl (by omega) ?_ | refine is_callE rfl rfl rfl (hCheck_ok k.at_ a1 _) ?_ | refine ru_skip ?_ | refine rk_blk ?_ | refine rk_inv ?_)
  exact ⟨(i + 1, _), ⟨rfl, rfl⟩, by simp only; omega, by simp only; omega⟩
 ·refine end_st hA (by first | exact .inl rfl | exact .inr rfl) rfl rfl rfl rfl ?_
  rfl
def sumM : List Mea → Mea
 | [] => .zero
 | m :: l => m.add (sumM l)
theorem Mea.add_zero (m : Mea) : m.add .zero = m := by cases m; simp [Mea.add, Mea.zero]
theorem Mea.zero_add (m : Mea) : Mea.add .zero m = m := by cases m; simp [Mea.add, Mea.zero]
theorem Mea.add_assoc (a b c : Mea) : (a.add b).add c = a.add (b.add c) := by cases a; cases b; cases c; simp [Mea.add, Int.add_assoc]
theorem sumM_append (a b : List Mea) : sumM (a ++ b) = (sumM a).add (sumM b) := by
 induction a with
 | nil => simp [sumM, Mea.zero_add]
 | cons m l ih => simp [sumM, ih, Mea.add_assoc]
structure Mea.Fit (m : Mea) (n : Int) : Prop where
 b0 : 0 ≤ m.b
 b1 : m.b ≤ n
 r0 : 0 ≤ m.r
 r1 : m.r ≤ n
 l0 : 0 ≤ m.l
 l1 : m.l ≤ n
theorem sumM_fit : ∀ {l : List Mea}, (∀ m ∈ l, m.Fit 65536) → (sumM l).Fit (l.length * 65536)
 | [], _ => ⟨by decide, by decide, by decide, by decide, by decide, by decide⟩
 | m :: l, h => by
  obtain ⟨a1, a2, a3, a4, a5, a6⟩ := h m (by simp)
  obtain ⟨b1, b2, b3, b4, b5, b6⟩ := sumM_fit (l := l) (fun x hx => h x (by simp [hx]))
  have : ((m :: l).length : Int) * 65536 = l.length * 65536 + 65536 := by simp; omega
  constructor <;> simp only [sumM, Mea.add] <;> omega
theorem take_succ_get {α : Type} {l : List α} {i : Nat} {a : α} (h : l[i]? = some a) : l.take (i + 1) = l.take i ++ [a] := by
 rw [List.take_add_one, h]; rfl
set_option maxHeartbeats 4000000 in
theorem Add_c (ms : List Mea) (hl : ms.length ≤ 4) (hf : ∀ m ∈ ms, m.Fit 65536) (st : St) (lv ix ver n : Nat) (hn : n = ms.length) (hg : st.get lv ix = some (.arr 3 ver (ms.map Mea.av))) : S Tb F_measure_Add [.ref lv ix ver 0 n] st = some ((sumM ms).av, st) := by
 subst hn
 refine s_of rfl (fun A hA => ?_)
 have hgA : ∀ L, St.get ⟨A, false, L⟩ lv ix = some (.arr 3 ver (ms.map Mea.av)) := fun L => get_old hA hg
 repeat' (first | refine ru_seq ?_ | refine ru_reg ?_ | refine is_mv rfl ?_ | refine is_nil rfl ?_ | refine rk_seq ?_ | refine is_lenR rfl ?_ | refine is_box rfl rfl rfl ?_ | refine ru_block ?_)
 refine ru_loopP (α := Nat × List Blk) (fun p => [(2, .ptr A.length 0 0 0 0), (3, .ptr A.length 1 0 0 0), (8, .ref lv ix ver 0 ms.length), (9, .int .i64 ms.length), (10, .int .i64 p.1)]) (fun p => ⟨A, false, .arr 3 0 [.agg [.int .i64 0, .int .i64 0, .int .i64 0]] :: .arr 3 0 [(sumM (ms.take p.1)).av] :: p.2⟩) (fun p => p.1 ≤ ms.length) (fun p => ms.length - p.1) (0, []) rfl rfl (by simp) ?_
 rintro ⟨i, G⟩ hi
 simp only at hi ⊢
 repeat' (first | refine ru_seq ?_ | refine ru_reg ?_ | refine is_ldc rfl rfl rfl rfl ?_ | refine is_nil rfl ?_ | refine rk_seq ?_ | (refine is_lss rfl rfl (fun _ => ?_) (fun _ => ?_) <;> try (exfalso; omega)) | refine ru_iteT rfl ?_ | refine ru_iteF rfl ?_ | refine is_stn rfl rfl rfl rfl rfl rfl ?_ | refine is_callE rfl rfl rfl (measured_c _ _) ?_ | refine ru_skip ?_ | refine ru_ret ?_ | refine ru_exit ?_ | refine ru_block ?_ | refine rk_nil ?_ | refine rk_seq_ex ?_ | refine rk_blk_eq rfl ?_ | refine rk_inv_ex ?_)
 ·rename_i hlt
  obtain ⟨m, hm⟩ : ∃ m, ms[i]? = some m := ⟨ms[i]'(by omega), by simp [show i < ms.length by omega]⟩
  obtain ⟨a1, a2, a3, a4, a5, a6⟩ := sumM_fit (l := ms.take i) (fun x hx => hf x (List.mem_of_mem_take hx))
  have hli := List.length_take_le i ms
  obtain ⟨b1, b2, b3, b4, b5, b6⟩ := hf m (List.mem_of_getElem? hm)
  refine is_ixR rfl rfl (by omega) (by rw [hgA]; simp [wIs]) ?_
  refine is_ld (x := m.av) rfl (hgA _) (by simp [hm]) rfl ?_
  have ht : sumM (ms.take (i + 1)) = ⟨(sumM (ms.take i)).b + m.b, (sumM (ms.take i)).r + m.r, (sumM (ms.take i)).l + m.l⟩ := by
   rw [take_succ_get hm, sumM_append]; simp [sumM, Mea.add, Mea.zero]
  generalize hS : sumM (ms.take i) = s at *
  rw [show s.av = .agg [.int .i64 s.b, .int .i64 s.r, .int .i64 s.l] from rfl]
  repeat' (first | refine ru_seq ?_ | refine ru_reg ?_ | refine is_mv rfl ?_ | refine is_fadr rfl rfl ?_ | refine is_ldc rfl rfl rfl rfl ?_ | refine is_nil rfl ?_ | refine rk_seq ?_ | refine is_ldT rfl rfl rfl ?_ | (refine is_lss rfl rfl (fun _ => ?_) (fun _ => ?_) <;> try (exfalso; omega)) | refine ru_iteT rfl ?_ | refine ru_iteF rfl ?_ | refine is_addS rfl rfl (by omega) ?_ | refine is_buildO rfl rfl rfl ?_ | refine is_boxG rfl rfl rfl ?_ | refine is_stT rfl rfl rfl rfl rfl rfl ?_ | refine is_ixArr rfl rfl rfl ?_ | refine is_ixA rfl rfl rfl ?_ | refine is_stn rfl rfl rfl rfl rfl rfl ?_ | refine ru_unroll ?_ | refine ru_skip ?_ | refine ru_exit ?_ | refine ru_block ?_ | refine rk_seq_ex ?_ | refine rk_blk ?_ | refine rk_blk_eq rfl ?_ | refine rk_inv ?_)
  refine ⟨(i + 1, G ++ [.arr 3 0 [m.av]]), ⟨rfl, ?_⟩, by simp only; omega, by simp only; omega⟩
  simp only [ht]
  rfl
 ·refine end_c hA (by first | exact .inl rfl | exact .inr rfl) rfl rfl rfl rfl rfl ?_
  have : ms.take i = ms := List.take_of_length_le (by omega)
  rw [this]; rfl
theorem sum_leaf (x : Nd) (h0 : x.h = 0) (h1 : x.text.length ≤ 16) (st : St) : S Tb F_node_sum [x.av] st = some ((meaT x.text).av, st) := by
 obtain ⟨h, text, kids⟩ := x
 simp only at h0 h1
 subst h0
 refine s_of rfl (fun A hA => ?_)
 have hO := fun st => Of_c text (by omega) st
 unfold Mea.av at hO
 simp only [Nd.av]
 cases kids
 all_goals simp only [slV]
 all_goals repeat' (first | refine ru_seq ?_ | refine ru_reg ?_ | refine is_fadr rfl rfl ?_ | refine is_ldc rfl rfl rfl rfl ?_ | refine is_nil rfl ?_ | refine rk_seq ?_ | (refine is_eql rfl rfl (fun _ => ?_) (fun _ => ?_) <;> try (exfalso; omega)) | refine ru_iteT rfl ?_ | refine is_box rfl rfl rfl ?_ | refine is_stb rfl rfl rfl rfl rfl rfl ?_ | refine is_callE rfl rfl rfl (hO _) ?_ | refine ru_ret ?_ | refine rk_nil ?_ | refine rk_seq_ret ?_)
 all_goals refine end_c hA (by first | exact .inl rfl | exact .inr rfl) rfl rfl rfl rfl rfl ?_
 all_goals rfl
theorem KidOk.fit {n : Nat} {k : Kid} (h : KidOk n k) : k.m.Fit 65536 := by
 obtain ⟨a1, b1, c1, d1, e1, f1, g1⟩ := h
 have := mostB_le n
 constructor <;> omega
set_option maxHeartbeats 4000000 in
theorem sum_in (n : Nat) (ks : List Kid) (hk : ks.length ≤ 4) (hs : ∀ k ∈ ks, k.m.Fit 65536) (text : List UInt8) (st : St) : S Tb F_node_sum [Nd.av ⟨n + 1, text, some ks⟩] st = some ((sumM (ks.map Kid.m)).av, st) := by
 refine s_of rfl (fun A hA => ?_)
 simp only [Nd.av, slV]
 repeat' (first | refine ru_seq ?_ | refine ru_reg ?_ | refine is_mv rfl ?_ | refine is_fadr rfl rfl ?_ | refine is_ldc rfl rfl rfl rfl ?_ | refine is_nil rfl ?_ | refine rk_seq ?_ | refine is_lenM rfl ?_ | (refine is_eql rfl rfl (fun _ => ?_) (fun _ => ?_) <;> try (exfalso; omega)) | refine ru_iteF rfl ?_ | refine is_box rfl rfl rfl ?_ | refine is_onil rfl ?_ | refine ru_skip ?_ | refine ru_block ?_)
 refine ru_loopP (α := Nat × List Blk) (fun p => [(2, .ptr A.length 1 0 0 0), (3, .ref A.length 2 p.1 0 p.1), (13, .lit (ks.map Kid.av)), (14, .int .i64 ks.length), (15, .int .i64 p.1)]) (fun p => ⟨A, false, .arr 3 0 [.agg [.int .i64 ↑(n + 1), .str text, .lit (ks.map Kid.av)]] :: .arr 3 0 [.agg [.int .i64 0, .int .i64 0, .int .i64 0]] :: .arr 3 p.1 ((ks.take p.1).map fun k => k.m.av) :: p.2⟩) (fun p => p.1 ≤ ks.length) (fun p => ks.length - p.1) (0, []) rfl rfl (by simp) ?_
 rintro ⟨i, G⟩ hi
 simp only at hi ⊢
 repeat' (first | refine ru_seq ?_ | refine ru_reg ?_ | refine is_mv rfl ?_ | refine is_fadr rfl rfl ?_ | refine is_nil rfl ?_ | refine rk_seq ?_ | refine is_ldT rfl rfl rfl ?_ | refine is_ldl rfl rfl ?_ | refine is_ixM rfl rfl (by omega) (fun _ => rfl) (fun _ _ => ?_) | (refine is_lss rfl rfl (fun _ => ?_) (fun _ => ?_) <;> try (exfalso; omega)) | refine ru_iteT rfl ?_ | refine ru_iteF rfl ?_ | refine is_addS rfl rfl (by omega) ?_ | refine is_boxG rfl rfl rfl ?_ | refine is_stT rfl rfl rfl rfl rfl rfl ?_ | refine is_bslFO rfl rfl rfl rfl ?_ | refine is_app1N rfl rfl rfl (by first | rfl | (simp; done) | (simp; omega)) (by first | omega | (simp <;> omega)) (by decide) rfl rfl ?_ | refine ru_skip ?_ | refine ru_exit ?_ | refine ru_block ?_ | refine rk_seq_ex ?_ | refine rk_blk ?_ | refine rk_blk_eq rfl ?_ | refine rk_inv ?_ | refine rk_inv_ex ?_)
 ·rename_i k hk'
  have hk2 : ks[i]? = some k := hk'
  refine ⟨(i + 1, G ++ [.arr 4 0 [k.av]]), ⟨rfl, ?_⟩, by simp only; omega, by simp only; omega⟩
  rw [take_succ_get hk2, List.map_append]
  rfl
 ·have hi' : ks.take i = ks := List.take_of_length_le (by omega)
  refine is_callE rfl rfl rfl (Add_c (ks.map Kid.m) (by simpa using hk) (by intro m hm; obtain ⟨k, hk1, rfl⟩ := List.mem_map.1 hm; exact hs k hk1) _ A.length 2 i i (by simp; omega) (by rw [St.get_cur, hi', List.map_map]; rfl)) ?_
  rw [show (sumM (ks.map Kid.m)).av = .agg [.int .i64 (sumM (ks.map Kid.m)).b, .int .i64 (sumM (ks.map Kid.m)).r, .int .i64 (sumM (ks.map Kid.m)).l] from rfl]
  repeat' (first | refine is_nil rfl ?_ | refine rk_seq ?_ | refine is_stn rfl rfl rfl rfl rfl rfl ?_ | refine ru_ret ?_ | refine rk_nil ?_)
  refine end_c hA (by first | exact .inl rfl | exact .inr rfl) rfl rfl rfl rfl rfl ?_
  rfl
end Go.Q17
namespace Go.Q17
open Go Go.QAbs
set_option maxRecDepth 100000
structure LeafOk (x : Nd) : Prop where
 h : x.h = 0
 lo : 1 ≤ x.text.length
 hi : x.text.length ≤ 16
 ks : x.ks = []
structure InnerOk (x : Nd) (n : Nat) (ks : List Kid) : Prop where
 eq : x = ⟨n + 1, [], some ks⟩
 n15 : n ≤ 15
 lo : 2 ≤ ks.length
 hi : ks.length ≤ 4
 kid : ∀ k ∈ ks, KidOk n k
 sum : (sumM (ks.map Kid.m)).b ≤ 65536
def NdOk (x : Nd) : Prop := LeafOk x ∨ ∃ n ks, InnerOk x n ks
def Nd.mea (x : Nd) : Mea := if x.h = 0 then meaT x.text else sumM (x.ks.map Kid.m)
theorem nCheck_c (x : Nd) (hx : NdOk x) (st : St) : S Tb F_node_Check [x.av] st = some (.int .i64 0, st) := by
 rcases hx with h | ⟨n, ks, rfl, h1, h2, h3, h4, h5⟩
 ·have hf := fun st => formed_leaf x h.h ⟨h.lo, h.hi⟩ h.ks st
  have hS := fun st => sum_leaf x h.h h.hi st
  have hhi := h.hi
  unfold Mea.av at hS
  have hm : (meaT x.text).b = x.text.length := rfl
  obtain ⟨h, text, kids⟩ := x
  simp only [Nd.av] at *
  refine s_of rfl (fun A hA => ?_)
  cases kids
  all_goals simp only [slV] at *
  all_goals repeat' (first | refine ru_seq ?_ | refine ru_reg ?_ | refine is_mv rfl ?_ | refine is_ldc rfl rfl rfl rfl ?_ | refine is_nil rfl ?_ | refine rk_seq ?_ | refine is_fld (agg := false) rfl rfl ?_ | (refine is_gtr rfl rfl (fun _ => ?_) (fun _ => ?_) <;> try (exfalso; omega)) | refine ru_iteF rfl ?_ | refine is_not rfl rfl ?_ | refine is_box rfl rfl rfl ?_ | refine is_callE rfl rfl rfl (hf _) ?_ | refine is_callE rfl rfl rfl (hS _) ?_ | refine ru_skip ?_ | refine ru_ret ?_ | refine rk_nil ?_)
  all_goals refine end_st hA (by first | exact .inl rfl | exact .inr rfl) rfl rfl rfl rfl ?_
  all_goals rfl
 ·have hf := fun st => formed_in n h1 ks ⟨h2, h3⟩ h4 st
  have hS := fun st => sum_in n ks h3 (fun k hk => (h4 k hk).fit) [] st
  unfold Mea.av at hS
  simp only [Nd.av, slV] at *
  refine s_of rfl (fun A hA => ?_)
  repeat' (first | refine ru_seq ?_ | refine ru_reg ?_ | refine is_mv rfl ?_ | refine is_ldc rfl rfl rfl rfl ?_ | refine is_nil rfl ?_ | refine rk_seq ?_ | refine is_fld (agg := false) rfl rfl ?_ | (refine is_gtr rfl rfl (fun _ => ?_) (fun _ => ?_) <;> try (exfalso; omega)) | refine ru_iteF rfl ?_ | refine is_not rfl rfl ?_ | refine is_box rfl rfl rfl ?_ | refine is_callE rfl rfl rfl (hf _) ?_ | refine is_callE rfl rfl rfl (hS _) ?_ | refine ru_skip ?_ | refine ru_ret ?_ | refine rk_nil ?_)
  refine end_st hA (by first | exact .inl rfl | exact .inr rfl) rfl rfl rfl rfl ?_
  rfl
theorem nMeasure_c (x : Nd) (hx : NdOk x) (st : St) : S Tb F_node_Measure [x.av] st = some (.tup [x.mea.av, .int .i64 0], st) := by
 have hC := fun st => nCheck_c x hx st
 rcases hx with h | ⟨n, ks, rfl, h1, h2, h3, h4, h5⟩
 ·have hS := fun st => sum_leaf x h.h h.hi st
  have he : x.mea = meaT x.text := by unfold Nd.mea; rw [if_pos h.h]
  rw [he]
  unfold Mea.av at *
  obtain ⟨h, text, kids⟩ := x
  simp only [Nd.av] at *
  refine s_of rfl (fun A hA => ?_)
  cases kids
  all_goals simp only [slV] at *
  all_goals repeat' (first | refine ru_seq ?_ | refine ru_reg ?_ | refine is_mv rfl ?_ | refine is_ldc rfl rfl rfl rfl ?_ | refine is_nil rfl ?_ | refine rk_seq ?_ | (refine is_neq rfl rfl (fun _ => ?_) (fun _ => ?_) <;> try (exfalso; omega)) | refine ru_iteF rfl ?_ | refine is_box rfl rfl rfl ?_ | refine is_stb rfl rfl rfl rfl rfl rfl ?_ | refine is_callE rfl rfl rfl (hC _) ?_ | refine is_callE rfl rfl rfl (hS _) ?_ | refine ru_skip ?_ | refine ru_ret ?_ | refine rk_nil ?_)
  all_goals refine end_c hA (by first | exact .inl rfl | exact .inr rfl) rfl rfl rfl rfl rfl ?_
  all_goals rfl
 ·have hS := fun st => sum_in n ks h3 (fun k hk => (h4 k hk).fit) [] st
  have he : Nd.mea ⟨n + 1, [], some ks⟩ = sumM (ks.map Kid.m) := rfl
  rw [he]
  unfold Mea.av at *
  simp only [Nd.av, slV] at *
  refine s_of rfl (fun A hA => ?_)
  repeat' (first | refine ru_seq ?_ | refine ru_reg ?_ | refine is_mv rfl ?_ | refine is_ldc rfl rfl rfl rfl ?_ | refine is_nil rfl ?_ | refine rk_seq ?_ | (refine is_neq rfl rfl (fun _ => ?_) (fun _ => ?_) <;> try (exfalso; omega)) | refine ru_iteF rfl ?_ | refine is_box rfl rfl rfl ?_ | refine is_stb rfl rfl rfl rfl rfl rfl ?_ | refine is_callE rfl rfl rfl (hC _) ?_ | refine is_callE rfl rfl rfl (hS _) ?_ | refine ru_skip ?_ | refine ru_ret ?_ | refine rk_nil ?_)
  refine end_c hA (by first | exact .inl rfl | exact .inr rfl) rfl rfl rfl rfl rfl ?_
  rfl
end Go.Q17
namespace Go.Q17
open Go Go.QAbs
set_option maxRecDepth 100000
def kidO : AV → Option Kid
 | .agg [.int .u64 (.ofNat a), .int .i64 b, .int .i64 r, .int .i64 l] => some ⟨a, ⟨b, r, l⟩⟩
 | _ => none
theorem kidO_ok {v : AV} {k : Kid} (h : kidO v = some k) : v = k.av := by
 unfold kidO at h
 split at h
 ·simp only [Option.some.injEq] at h; subst h; rfl
 ·simp at h
def kidsO : List AV → Option (List Kid)
 | [] => some []
 | v :: vs => (kidO v).bind fun k => (kidsO vs).map (k :: ·)
theorem kidsO_ok : ∀ {vs : List AV} {ks : List Kid}, kidsO vs = some ks → vs = ks.map Kid.av
 | [], ks, h => by simp only [kidsO, Option.some.injEq] at h; subst h; rfl
 | v :: vs, ks, h => by
  simp only [kidsO, Option.bind_eq_some_iff, Option.map_eq_some_iff] at h
  obtain ⟨k, hk, r, hr, rfl⟩ := h
  rw [kidO_ok hk, kidsO_ok hr]; rfl
def ndK (h : Nat) (s : List UInt8) (ks : List Kid) : Option Nd := some ⟨h, s, some ks⟩
def ndO : AV → Option Nd
 | .agg [.int .i64 (.ofNat h), .str s, .nils] => some ⟨h, s, none⟩
 | .agg [.int .i64 (.ofNat h), .str s, .lit es] => (kidsO es).bind (ndK h s)
 | _ => none
theorem ndO_ok {v : AV} {x : Nd} (h : ndO v = some x) : v = x.av := by
 unfold ndO at h
 split at h
 ·simp only [Option.some.injEq] at h; subst h; rfl
 ·simp only [Option.bind_eq_some_iff, ndK, Option.some.injEq] at h
  obtain ⟨ks, hk, rfl⟩ := h
  rw [kidsO_ok hk]; rfl
 ·simp at h
def kidB (h : Nat) (k : Kid) : Bool := decide (k.at_ % 65536 < 16384) && decide (1 ≤ k.at_ / 65536) && decide (k.at_ / 65536 ≤ 4294967295) && decide ((leastB h : Int) ≤ k.m.b) && decide (k.m.b ≤ mostB h) && decide (0 ≤ k.m.r) && decide (k.m.r ≤ k.m.b) && decide (0 ≤ k.m.l) && decide (k.m.l ≤ k.m.r)
theorem kidB_ok {h : Nat} {k : Kid} (q : kidB h k = true) : KidOk h k := by
 simp only [kidB, Bool.and_eq_true, decide_eq_true_eq] at q
 obtain ⟨⟨⟨⟨⟨⟨⟨⟨a, b⟩, c⟩, d⟩, e⟩, f⟩, g⟩, i⟩, j⟩ := q
 exact ⟨⟨a, b, c⟩, d, e, f, g, i, j⟩
def ndB : Nd → Bool
 | ⟨0, s, none⟩ => decide (1 ≤ s.length) && decide (s.length ≤ 16)
 | ⟨0, s, some []⟩ => decide (1 ≤ s.length) && decide (s.length ≤ 16)
 | ⟨n + 1, [], some ks⟩ => decide (n ≤ 15) && decide (2 ≤ ks.length) && decide (ks.length ≤ 4) && ks.all (kidB n) && decide ((sumM (ks.map Kid.m)).b ≤ 65536)
 | _ => false
theorem ndB_ok {x : Nd} (h : ndB x = true) : NdOk x := by
 unfold ndB at h
 split at h
 ·simp only [Bool.and_eq_true, decide_eq_true_eq] at h
  exact .inl ⟨rfl, h.1, h.2, rfl⟩
 ·simp only [Bool.and_eq_true, decide_eq_true_eq] at h
  exact .inl ⟨rfl, h.1, h.2, rfl⟩
 ·simp only [Bool.and_eq_true, decide_eq_true_eq] at h
  obtain ⟨⟨⟨⟨a, b⟩, c⟩, d⟩, e⟩ := h
  exact .inr ⟨_, _, rfl, a, b, c, fun k hk => kidB_ok (List.all_eq_true.1 d k hk), e⟩
 ·simp at h
def xOf : List AV → St → Option (AV × St)
 | [.str s], st => bif decide (s.length < 4294967296) then some ((meaT s).av, st) else none
 | _, _ => none
theorem xOf_ok (args : List AV) (st : St) (r : AV × St) (h : xOf args st = some r) : S Tb F_measure_Of args st = some r := by
 unfold xOf at h
 split at h
 ·rename_i st s
  cases hs : decide (s.length < 4294967296) with
  | false => rw [hs] at h; simp at h
  | true =>
   rw [hs] at h
   simp only [cond_true, Option.some.injEq] at h; subst h
   exact Of_c s (of_decide_eq_true hs) _
 ·simp at h
def xHCheck : List AV → St → Option (AV × St)
 | [.int .u64 (.ofNat h)], st => bif decide (handleP h) then some (.int .i64 0, st) else none
 | _, _ => none
theorem xHCheck_ok (args : List AV) (st : St) (r : AV × St) (h : xHCheck args st = some r) : S Tb F_handle_Check args st = some r := by
 unfold xHCheck at h
 split at h
 ·rename_i st a
  cases hs : decide (handleP a) with
  | false => rw [hs] at h; simp at h
  | true =>
   rw [hs] at h
   simp only [cond_true, Option.some.injEq] at h; subst h
   exact hCheck_ok a (of_decide_eq_true hs) _
 ·simp at h
def xNCheckK (st : St) (x : Nd) : Option (AV × St) := bif ndB x then some (.int .i64 0, st) else none
def xNCheck : List AV → St → Option (AV × St)
 | [v], st => (ndO v).bind (xNCheckK st)
 | _, _ => none
theorem xNCheck_ok (args : List AV) (st : St) (r : AV × St) (h : xNCheck args st = some r) : S Tb F_node_Check args st = some r := by
 unfold xNCheck at h
 split at h
 ·rename_i st v
  simp only [Option.bind_eq_some_iff, xNCheckK] at h
  obtain ⟨x, hx, h⟩ := h
  cases hs : ndB x with
  | false => rw [hs] at h; simp at h
  | true =>
   rw [hs] at h
   simp only [cond_true, Option.some.injEq] at h; subst h
   rw [ndO_ok hx]
   exact nCheck_c x (ndB_ok hs) _
 ·simp at h
def xNMeasureK (st : St) (x : Nd) : Option (AV × St) := bif ndB x then some (.tup [x.mea.av, .int .i64 0], st) else none
def xNMeasure : List AV → St → Option (AV × St)
 | [v], st => (ndO v).bind (xNMeasureK st)
 | _, _ => none
theorem xNMeasure_ok (args : List AV) (st : St) (r : AV × St) (h : xNMeasure args st = some r) : S Tb F_node_Measure args st = some r := by
 unfold xNMeasure at h
 split at h
 ·rename_i st v
  simp only [Option.bind_eq_some_iff, xNMeasureK] at h
  obtain ⟨x, hx, h⟩ := h
  cases hs : ndB x with
  | false => rw [hs] at h; simp at h
  | true =>
   rw [hs] at h
   simp only [cond_true, Option.some.injEq] at h; subst h
   rw [ndO_ok hx]
   exact nMeasure_c x (ndB_ok hs) _
 ·simp at h
def xBounds : List AV → St → Option (AV × St)
 | [.int .i64 (.ofNat n)], st => bif decide (n ≤ 16) then some (.tup [.int .i64 (leastB n), .int .i64 (mostB n)], st) else none
 | _, _ => none
theorem xBounds_ok (args : List AV) (st : St) (r : AV × St) (h : xBounds args st = some r) : S Tb F_node_bounds args st = some r := by
 unfold xBounds at h
 split at h
 ·rename_i st a
  cases hs : decide (a ≤ 16) with
  | false => rw [hs] at h; simp at h
  | true =>
   rw [hs] at h
   simp only [cond_true, Option.some.injEq] at h; subst h
   exact bounds_c a _ rfl (of_decide_eq_true hs) _
 ·simp at h
def xCount : List AV → St → Option (AV × St)
 | [.str s, .func (.func f) [] []], st => bif decide (s.length < 4294967296) then (bif Nat.beq f F_measure_begins then some (.int .i64 (s.countP beginsB), st) else bif Nat.beq f F_measure_feeds then some (.int .i64 (s.countP feedsB), st) else none) else none
 | _, _ => none
theorem xCount_ok (args : List AV) (st : St) (r : AV × St) (h : xCount args st = some r) : S Tb F_measure_count args st = some r := by
 unfold xCount at h
 split at h
 ·rename_i st s f
  cases hs : decide (s.length < 4294967296) with
  | false => rw [hs] at h; simp at h
  | true =>
   rw [hs] at h
   simp only [cond_true] at h
   cases h1 : Nat.beq f F_measure_begins with
   | true =>
    rw [h1] at h
    simp only [cond_true, Option.some.injEq] at h; subst h
    rw [Nat.eq_of_beq_eq_true h1]
    exact count_c _ _ begins_c s (of_decide_eq_true hs) _
   | false =>
    rw [h1] at h
    simp only [cond_false] at h
    cases h2 : Nat.beq f F_measure_feeds with
    | true =>
     rw [h2] at h
     simp only [cond_true, Option.some.injEq] at h; subst h
     rw [Nat.eq_of_beq_eq_true h2]
     exact count_c _ _ feeds_c s (of_decide_eq_true hs) _
    | false => rw [h2] at h; simp at h
 ·simp at h
def shL : List (FuncId × (List AV → St → Option (AV × St))) := [(F_measure_Of, xOf), (F_handle_Check, xHCheck), (F_node_Check, xNCheck), (F_node_Measure, xNMeasure), (F_node_bounds, xBounds), (F_measure_count, xCount)]
theorem shL_ok : ShOk Tb (shLook shL) := shLook_ok ⟨xOf_ok, xHCheck_ok, xNCheck_ok, xNMeasure_ok, xBounds_ok, xCount_ok, trivial⟩
end Go.Q17
namespace Go.Q17
open Go Go.QAbs
set_option maxRecDepth 100000
open Go.Shelf in
def cloneRen : Ren := ⟨fun | 41 => 104 | n => n, fun | 22 => 91 | 23 => 147 | n => n, fun n => n⟩
theorem cloneL : Go.Proofs.SlLaysE0.n41 Go.Proofs.Try.prog cloneRen := {
 mixed := by kernel_rfl
 f41 := ⟨"slices.Clone[[]quarto/api.Kid,quarto/api.Kid]", by decide, Go.Proofs.Try.func104.trans (congrArg some (by kernel_rfl))⟩
 t4 := Go.Proofs.Try.underlying4
 a4 := Go.Proofs.Try.isAgg4
 z4 := Go.Proofs.Try.sizeOf4
 v4 := Go.Proofs.Try.zeroValue4
 t22 := Go.Proofs.Try.underlying91
 a22 := Go.Proofs.Try.isAgg91
 z22 := Go.Proofs.Try.sizeOf91
 v22 := Go.Proofs.Try.zeroValue91 }
theorem kid_info : ∃ i z, Go.Proofs.Try.prog.info? 147 = some i ∧ i.zero = some z ∧ i.size = 4 ∧ i.bytes = 32 ∧ z.cells.size = 4 := ⟨_, _, rfl, rfl, rfl, rfl, rfl⟩
theorem clone_c0 : EntOk Go.Proofs.Try.prog F_slices_Clone_api_Kid_api_Kid (.base (cloneO 4)) := by
 obtain ⟨i, z, h1, h2, h3, h4, h5⟩ := kid_info
 refine clone_ok (T := 147) (fun n c W => Go.Proofs.AnyE.slices_Clone_nil cloneL n c W) fun ad n c news W hl hn hc ho => ?_
 exact clone_any cloneL i z 4 32 h1 h2 h3 h4 h5 (by decide) Go.Proofs.Try.sizeOf147 ad n c news W hl (by unfold maxLen; omega) (by omega) hc ho
def tl : List (FuncId × Ent) := (F_slices_Clone_api_Kid_api_Kid, .base (cloneO 4)) :: tabL
theorem Tb_ok : TabOk Go.Proofs.Try.prog Tb := tabOk_of ⟨⟨Go.Proofs.Try.call104, clone_c0⟩, tab_all⟩
theorem seekNames_run : ∃ st', S Tb F_quartolaw17_SeekNames [] .empty = some (.bool true, st') := rx_true (l := tl) shL_ok 60 (by kernel_rfl)
end Go.Q17
