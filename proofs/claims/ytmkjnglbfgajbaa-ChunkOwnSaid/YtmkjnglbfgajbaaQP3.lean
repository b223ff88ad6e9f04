/- Operations that may go in either order. No condition. -/
import Derived.Test.YtmkjnglbfgajbaaQP2
namespace Go.QAbs
set_option linter.unusedVariables false
set_option linter.unusedSimpArgs false

section
variable {e e' : Env}

theorem get_eq {x : Opd} (h : ∀ t ∈ x.slots, look e t = look e' t) : x.get e = x.get e' := by
  cases x with
  | s t => exact h t (by simp [Opd.slots])
  | v a => rfl

theorem oget_eq {x : Option Opd} (h : ∀ t ∈ oslots x, look e t = look e' t) : oget e x = oget e' x := by
  cases x with
  | none => rfl
  | some x => simp only [oget]; rw [get_eq h]

theorem gets_eq : ∀ {l : List Opd}, (∀ t ∈ lslots l, look e t = look e' t) → gets e l = gets e' l
  | [], _ => rfl
  | x :: xs, h => by
    simp only [lslots, List.mem_append] at h
    simp only [gets]; rw [get_eq fun t ht => h t (.inl ht), gets_eq fun t ht => h t (.inr ht)]

theorem partsV_eq : ∀ {l : List (Nat × Nat × Opd)}, (∀ t ∈ pslots l, look e t = look e' t) → partsV e l = partsV e' l
  | [], _ => rfl
  | x :: xs, h => by
    simp only [pslots, List.mem_append] at h
    simp only [partsV]; rw [get_eq fun t ht => h t (.inl ht), partsV_eq fun t ht => h t (.inr ht)]

theorem partsE_eq : ∀ {l : List (Nat × Opd)}, (∀ t ∈ eslots l, look e t = look e' t) → partsE e l = partsE e' l
  | [], _ => rfl
  | x :: xs, h => by
    simp only [eslots, List.mem_append] at h
    simp only [partsE]; rw [get_eq fun t ht => h t (.inl ht), partsE_eq fun t ht => h t (.inr ht)]

theorem evalPO_eq {st : St} {o : PO} (h : ∀ t ∈ o.slots, look e t = look e' t) : evalPO e st o = evalPO e' st o := by
  cases o <;> simp only [PO.slots, List.mem_append] at h <;> simp only [evalPO]
  case pick => rw [get_eq fun t ht => h t (.inl ht), get_eq fun t ht => h t (.inr (.inl ht)), get_eq fun t ht => h t (.inr (.inr ht))]
  case build => rw [partsV_eq h]
  case bslice => rw [partsE_eq h]
  case mkf => rw [gets_eq fun t ht => h t (.inl ht), gets_eq fun t ht => h t (.inr ht)]
  case slcS => rw [get_eq fun t ht => h t (.inl ht), oget_eq fun t ht => h t (.inr (.inl ht)), oget_eq fun t ht => h t (.inr (.inr ht))]
  case slc => rw [get_eq fun t ht => h t (.inl ht), oget_eq fun t ht => h t (.inr (.inl ht)), oget_eq fun t ht => h t (.inr (.inr ht))]
  case mupd => rw [get_eq fun t ht => h t (.inl ht), get_eq fun t ht => h t (.inr (.inl ht)), get_eq fun t ht => h t (.inr (.inr ht))]
  all_goals first
    | done
    | rw [get_eq h]
    | rw [get_eq fun t ht => h t (.inl ht), get_eq fun t ht => h t (.inr ht)]

theorem newOf_eq {o : PO} (h : ∀ t ∈ o.slots, look e t = look e' t) : newOf e o = newOf e' o := by
  cases o <;> simp only [PO.slots, List.mem_append] at h <;> simp only [newOf]
  case box => rw [get_eq h]
  case mkslice => rw [get_eq fun t ht => h t (.inl ht), get_eq fun t ht => h t (.inr ht)]

theorem evalW_eq {st : St} {o : PO} {k : WK} (h : ∀ t ∈ k.slots ++ o.slots, look e t = look e' t) : evalW e st o k = evalW e' st o k := by
  simp only [List.mem_append] at h
  have ho : ∀ t ∈ o.slots, look e t = look e' t := fun t ht => h t (.inr ht)
  cases k with
  | blind => simp only [evalW]; rw [evalPO_eq ho]
  | imm =>
    simp only [evalW]
    unfold immW
    split
    · simp only [PO.slots] at ho; rw [partsE_eq ho]
    · rfl
  | app0 =>
    simp only [evalW]
    unfold app0W
    split
    · rename_i w bytes s x
      rw [evalPO_eq ho]
      simp only [PO.slots, List.mem_append] at ho
      rw [get_eq fun t ht => ho t (.inl ht)]
    · rfl
  | hide as =>
    simp only [evalW]
    rw [gets_eq fun t ht => h t (.inl ht), evalPO_eq ho]
  | plain b =>
    simp only [evalW]
    unfold plainW
    split
    · rename_i n a x
      rw [evalPO_eq ho, get_eq fun t ht => h t (.inl ht)]
      simp only [PO.slots, List.mem_append] at ho
      rw [get_eq fun t ht => ho t (.inl ht), get_eq fun t ht => ho t (.inr ht)]
    · rfl
  | here j => simp only [evalW]; rw [newOf_eq ho]

theorem all_slots {o : PO} {t : Nat} (h : t ∈ o.slots) : t ∈ o.all := by
  cases o <;> first | exact h | simp [PO.slots] at h

theorem evalPI_eq {O : Orc} {st : St} {o : PO} (h : ∀ t ∈ o.all, look e t = look e' t) : evalPI O e st o = evalPI O e' st o := by
  cases o with
  | call m f l =>
    simp only [PO.all, PO.slots, List.mem_append] at h
    simp only [evalPI]; rw [get_eq fun t ht => h t (.inl ht), gets_eq fun t ht => h t (.inr ht)]
  | w k o => exact evalW_eq h
  | _ => exact evalPO_eq fun t ht => h t (all_slots ht)

theorem evalI_eq {O : Orc} {st : St} {p : PI} (h : ∀ t ∈ p.op.all, look e t = look e' t) : evalI O e st p = evalI O e' st p := by
  unfold evalI
  rw [evalPO_eq (fun t ht => h t (all_slots ht)), evalPI_eq h]

end

theorem wantedV_eq {e e' : Env} {g : Option (Nat × Bool)} (h : ∀ t ∈ gslots g, look e t = look e' t) : wantedV e g = wantedV e' g := by
  cases g with
  | none => rfl
  | some g => obtain ⟨t, w⟩ := g; simp only [wantedV]; rw [h t (by simp [gslots])]

/-! ### One step -/

def stepT (O : Orc) (p : PI) (e : Env) (st : St) : Bool → Option (AV × St)
  | true => evalI O e st p
  | false => some (.undef, st)

def valI (O : Orc) (p : PI) (e : Env) (st : St) : Option (AV × St) := (wantedV e p.guard).bind (stepT O p e st)

theorem runIs_val (O : Orc) (p : PI) (ps : List PI) (e : Env) (st : St) : runIs O (p :: ps) e st = (valI O p e st).bind fun r => runIs O ps (setD e p.dst r.1) r.2 := by
  simp only [runIs, valI]
  cases wantedV e p.guard with
  | none => rfl
  | some b =>
    cases b with
    | true => simp only [Option.bind_some, runW, stepT]; rfl
    | false => simp [runW, stepT]

theorem valI_eq {O : Orc} {p : PI} {e e' : Env} {st : St} (h : ∀ t ∈ p.slots, look e t = look e' t) : valI O p e st = valI O p e' st := by
  simp only [PI.slots, List.mem_append] at h
  unfold valI
  rw [wantedV_eq fun t ht => h t (.inl ht)]
  congr 1
  funext b
  cases b with
  | true => exact evalI_eq fun t ht => h t (.inr ht)
  | false => rfl

def EqE (e e' : Env) : Prop := ∀ t, look e t = look e' t

theorem EqE.set {e e' : Env} (h : EqE e e') (d : Option Nat) (v : AV) : EqE (setD e d v) (setD e' d v) := by
  intro t
  cases d with
  | none => exact h t
  | some d => simp only [setD, look]; split; rfl; exact h t

theorem runIs_eqE {O : Orc} : ∀ {ps : List PI} {e e' : Env} {st : St} {r : Env × St}, EqE e e' → runIs O ps e st = some r → ∃ r', runIs O ps e' st = some r' ∧ EqE r.1 r'.1 ∧ r'.2 = r.2
  | [], e, e', st, r, h, hr => by simp only [runIs, Option.some.injEq] at hr; subst hr; exact ⟨_, rfl, h, rfl⟩
  | p :: ps, e, e', st, r, h, hr => by
    rw [runIs_val, Option.bind_eq_some_iff] at hr
    obtain ⟨q, hq, hr⟩ := hr
    obtain ⟨r', h1, h2, h3⟩ := runIs_eqE (h.set p.dst q.1) hr
    exact ⟨r', by rw [runIs_val, ← valI_eq fun t _ => h t, hq]; exact h1, h2, h3⟩

/-! ### Which may go in either order -/

theorem setD_look {e : Env} {d : Option Nat} {v : AV} {l : List Nat} (h : notIn d l = true) : ∀ t ∈ l, look (setD e d v) t = look e t := by
  intro t ht
  cases d with
  | none => rfl
  | some d =>
    simp only [setD, look]
    rw [if_neg]
    rintro rfl
    simp [notIn, ht] at h

theorem setD_comm {e : Env} {d d' : Option Nat} {v v' : AV} (h : dstApart d d' = true) : EqE (setD (setD e d v) d' v') (setD (setD e d' v') d v) := by
  intro t
  cases d with
  | none => rfl
  | some d =>
    cases d' with
    | none => rfl
    | some d' =>
      simp only [dstApart, bne_iff_ne, ne_eq] at h
      simp only [setD, look]
      by_cases h1 : d' = t
      · rw [if_pos h1, if_neg (by omega), if_pos h1]
      · rw [if_neg h1]
        split <;> simp

theorem pure_at {o : PO} (ho : o.pure = true) {e : Env} {s t s' : St} {v : AV} (h : evalPO e s o = some (v, s')) : evalPO e t o = some (v, t) ∧ s' = s := by
  cases o <;> simp only [PO.pure, Bool.false_eq_true] at ho <;> simp only [evalPO] at h ⊢
  case mv => simp at h; simp [h]
  case build =>
    simp only [Option.bind_eq_some_iff, Option.some.injEq, Prod.mk.injEq] at h ⊢
    obtain ⟨cs, h0, rfl, rfl⟩ := h
    exact ⟨⟨cs, h0, rfl, trivial⟩, rfl⟩
  case eqs =>
    simp only [Option.bind_eq_some_iff, Option.some.injEq, Prod.mk.injEq] at h ⊢
    obtain ⟨cs, h0, rfl, rfl⟩ := h
    exact ⟨⟨cs, h0, rfl, trivial⟩, rfl⟩
  case mkf => simp at h; simp [h]
  case len k x =>
    simp only [Option.bind_eq_some_iff, Option.some.injEq, Prod.mk.injEq] at h ⊢
    obtain ⟨n, h0, rfl, rfl⟩ := h
    refine ⟨⟨n, ?_, rfl, trivial⟩, rfl⟩
    unfold lenOf at h0 ⊢
    split at h0 <;> simp_all
  all_goals exact ret1_at h fun _ q => q

theorem vis_get {L : List Blk} {i : Nat} {c : Blk} (h : vis L[i]? = some c) : L[i]? = some c := by
  unfold vis at h
  split at h
  · simp at h
  · exact h

theorem vis_append {L : List Blk} {i : Nat} {b c : Blk} (h : vis L[i]? = some c) : vis (L ++ [b])[i]? = some c := by
  rw [List.getElem?_append_left (lt_of_get (vis_get h))]; exact h

theorem new_more {s s' : St} {b : Blk} {i : Nat} (h : s.new b = some (i, s')) : More s s' ∧ s'.A = s.A ∧ s'.ro = s.ro ∧ ∃ c, s'.L = s.L ++ [c] := by
  unfold St.new at h
  split at h
  · simp at h
  · simp only [Option.some.injEq, Prod.mk.injEq] at h
    obtain ⟨rfl, rfl⟩ := h
    refine ⟨?_, rfl, rfl, b, rfl⟩
    intro lv ix c hc
    unfold St.get at hc ⊢
    simp only
    split at hc
    · rename_i h1
      rw [if_pos h1]; exact vis_append hc
    · rename_i h1; rw [if_neg h1]; exact hc

structure Adds (s s' : St) : Prop where
  more : More s s'
  mask : More s.mask s'.mask

theorem Adds.of_new {s s' : St} {b : Blk} {i : Nat} (h : s.new b = some (i, s')) : Adds s s' := by
  obtain ⟨h1, h2, h3, c, h4⟩ := new_more h
  refine ⟨h1, ?_⟩
  intro lv ix d hd
  unfold St.get St.mask at hd ⊢
  simp only [h2, h4, List.length_map, List.getElem?_map] at hd ⊢
  split at hd
  · rename_i h1
    rw [if_pos h1]; exact vis_append hd
  · rename_i h1; rw [if_neg h1]; exact hd

theorem Adds.trans {s t u : St} (h : Adds s t) (k : Adds t u) : Adds s u := ⟨fun _ _ _ q => k.more _ _ _ (h.more _ _ _ q), fun _ _ _ q => k.mask _ _ _ (h.mask _ _ _ q)⟩

theorem adds_ok {o : PO} (ho : o.adds = true) {e : Env} {s s' : St} {v : AV} (h : evalPO e s o = some (v, s')) : Adds s s' := by
  cases o <;> simp only [PO.adds, Bool.false_eq_true] at ho <;> simp only [evalPO] at h
  case onil =>
    simp only [Option.bind_eq_some_iff, newRefK, Option.some.injEq, Prod.mk.injEq] at h
    obtain ⟨⟨i, s1⟩, hn, _, rfl⟩ := h
    exact .of_new hn
  case box =>
    simp only [Option.bind_eq_some_iff, newPtrK, Option.some.injEq, Prod.mk.injEq] at h
    obtain ⟨w, _, ⟨i, s1⟩, hn, _, rfl⟩ := h
    exact .of_new hn
  case boxnil =>
    simp only [Option.bind_eq_some_iff, boxNilK, newPtrK, Option.some.injEq, Prod.mk.injEq] at h
    obtain ⟨⟨i, s1⟩, hn, ⟨j, s2⟩, hn2, _, rfl⟩ := h
    exact (Adds.of_new hn).trans (.of_new hn2)
  case bslice own w z ps =>
    simp only [bslK, ho, if_true, Option.bind_eq_some_iff, newRefK, Option.some.injEq, Prod.mk.injEq] at h
    obtain ⟨es, _, ⟨i, s1⟩, hn, _, rfl⟩ := h
    exact .of_new hn
  case mkmap =>
    simp only [Option.bind_eq_some_iff, newMapK, Option.some.injEq, Prod.mk.injEq] at h
    obtain ⟨⟨i, s1⟩, hn, _, rfl⟩ := h
    exact .of_new hn
  case mkslice =>
    unfold mkslV at h
    split at h
    · split at h
      · simp only [Option.bind_eq_some_iff, newRefK, Option.some.injEq, Prod.mk.injEq] at h
        obtain ⟨⟨i, s1⟩, hn, _, rfl⟩ := h
        exact .of_new hn
      · simp at h
    · simp at h

end Go.QAbs
