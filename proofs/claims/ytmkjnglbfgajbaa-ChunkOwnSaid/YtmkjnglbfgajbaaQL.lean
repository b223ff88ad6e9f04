/- Each operation that only computes does what the abstract one says. No condition. -/
import Derived.Test.YtmkjnglbfgajbaaQK
import Derived.Laws.Strings
namespace Go.QAbs
set_option linter.unusedVariables false
set_option linter.unusedSimpArgs false
open Go.RowKit (Below)

section
variable {P : Program} {W0 : World} {B0 : Nat} {st st' : St} {ρ : Rho} {W : World} {e : Env} {a : Act}

/-- The operation ends, with a value that is what was said, and the store goes on as was said. -/
def Fin (W0 : World) (B0 : Nat) (st : St) (ρ : Rho) (W : World) (r : Result Next) (v : AV) (st' : St) : Prop :=
  ∃ nx x ρ' W', r = .ok nx W' ∧ (nx = .value x ∨ (nx = .skip ∧ x = Go.undef)) ∧ Goes W0 B0 st ρ W st' ρ' W' ∧ R (cx st' ρ' W' st'.A.length) v x

theorem Fin.val (hr : Rel W0 B0 st ρ W) {r : Result Next} {v : AV} {x : Value} (h : r = .ok (.value x) W) (hv : R (cx st ρ W st.A.length) v x) : Fin W0 B0 st ρ W r v st :=
  ⟨_, x, ρ, W, h, .inl rfl, .refl hr, hv⟩

theorem run_v {s : Sem Value} {x : Value} {W' : World} (h : s.run P W = .ok x W') : (do pure (Next.value (← s)) : Sem Next).run P W = .ok (.value x) W' := by
  simp [h]

theorem run_u {s : Sem Unit} {W' : World} (h : s.run P W = .ok () W') : (do s; pure Next.skip : Sem Next).run P W = .ok .skip W' := by
  simp [h]

theorem run_info {t : TypeId} {i : TypeInfo} (h : P.info? t = some i) : (typeInfo t).run P W = .ok i W := by simp [typeInfo, h]
theorem run_sz {t : TypeId} {n : Nat} (h : sz P t = some n) : (sizeOf t).run P W = .ok n W := by
  unfold sz at h
  cases hi : P.info? t with
  | none => rw [hi] at h; simp at h
  | some i => rw [hi] at h; simp only [Option.map_some, Option.some.injEq] at h; simp [sizeOf, typeInfo, hi, h]
theorem run_und {t : TypeId} {d : TypeDesc} (h : P.underlying t = some d) : (underlying t).run P W = .ok d W := by simp [underlying, h]
theorem run_agg {t : TypeId} {g : Bool} (h : aggT P t = some g) : (isAgg t).run P W = .ok g W := by
  unfold aggT at h
  cases hu : P.underlying t with
  | none => rw [hu] at h; simp at h
  | some d =>
    rw [hu] at h
    simp only [Option.map_some, Option.some.injEq] at h
    subst h
    simp only [isAgg, Sem.run_bind, run_und hu, Result.andThen_ok]
    cases d <;> rfl
theorem run_zero {t : TypeId} {z : AV} (h : zeroC P t = some z) : ∃ v, (zeroValue t).run P W = .ok v W ∧ (∀ C : Cx, R C z v) ∧ (P.info? t).bind (·.zero) = some v := by
  unfold zeroC at h
  cases hi : P.info? t with
  | none => rw [hi] at h; simp at h
  | some i =>
    rw [hi] at h
    simp only [Option.bind_some] at h
    cases hz : i.zero with
    | none => rw [hz] at h; simp at h
    | some v =>
      rw [hz] at h
      simp only [Option.bind_some] at h
      refine ⟨v, ?_, fun C => ofConst_ok h, by simp [hz]⟩
      simp [zeroValue, typeInfo, hi, hz]

theorem getInt {C : Cx} {v : Value} {k : IntKind} {n : Int} (h : R C (.int k n) v) : v = .int k n := by cases h; rfl
theorem getStr {C : Cx} {v : Value} {s : List UInt8} (h : R C (.str s) v) : v = .string ⟨s.toArray⟩ := by cases h; rfl
theorem getBool {C : Cx} {v : Value} {b : Bool} (h : R C (.bool b) v) : v = .bool b := by cases h; rfl

/-! ### The binary operations -/

theorem bytes_toList (l : List UInt8) : (ByteArray.mk l.toArray).toList = l := by
  rw [ByteArray.toList_eq]
theorem beq_decI (x y : Int) : (x == y) = decide (x = y) := by rw [Bool.eq_iff_iff]; simp
theorem beq_dec (x y : List UInt8) : (x == y) = decide (x = y) := by rw [Bool.eq_iff_iff]; simp
theorem bne_dec (x y : List UInt8) : (!decide (x = y)) = decide (x ≠ y) := by simp
theorem bytes_size (l : List UInt8) : (ByteArray.mk l.toArray).size = l.length := by simp [ByteArray.size]

theorem intBin_ok {op : BinOp} {k : IntKind} {x y : Int} {v : AV} (h : intBin op k x y = some v) (hs : isSh op = false) (t : TypeId) :
    ∃ z, (binOp op t (.int k x) (.int k y)).run P W = .ok z W ∧ ∀ C, R C v z := by
  cases op <;> simp only [intBin, Option.some.injEq, reduceCtorEq, isSh] at h hs <;> try contradiction
  case add => subst h; exact ⟨_, by simp [binOp, Op.intArith], fun _ => .int _ _⟩
  case sub => subst h; exact ⟨_, by simp [binOp, Op.intArith], fun _ => .int _ _⟩
  case mul => subst h; exact ⟨_, by simp [binOp, Op.intArith], fun _ => .int _ _⟩
  case quo =>
    split at h
    · simp at h
    · rename_i hy
      simp only [Option.some.injEq] at h; subst h
      exact ⟨_, by simp [binOp, Op.intDiv, hy], fun _ => .int _ _⟩
  case rem =>
    split at h
    · simp at h
    · rename_i hy
      simp only [Option.some.injEq] at h; subst h
      exact ⟨_, by simp [binOp, Op.intDiv, hy], fun _ => .int _ _⟩
  case and => subst h; exact ⟨_, by simp [binOp, Op.intBits], fun _ => .int _ _⟩
  case or => subst h; exact ⟨_, by simp [binOp, Op.intBits], fun _ => .int _ _⟩
  case xor => subst h; exact ⟨_, by simp [binOp, Op.intBits], fun _ => .int _ _⟩
  case eql => subst h; exact ⟨.bool (decide (x = y)), by simp [binOp, Op.intCmp, beq_decI], fun _ => .bool _⟩
  case neq => subst h; exact ⟨.bool (decide (x ≠ y)), by simp [binOp, Op.intCmp, bne, beq_decI], fun _ => .bool _⟩
  case lss => subst h; exact ⟨_, by simp [binOp, Op.intCmp], fun _ => .bool _⟩
  case leq => subst h; exact ⟨_, by simp [binOp, Op.intCmp], fun _ => .bool _⟩
  case gtr => subst h; exact ⟨_, by simp [binOp, Op.intCmp], fun _ => .bool _⟩
  case geq => subst h; exact ⟨_, by simp [binOp, Op.intCmp], fun _ => .bool _⟩

theorem shBin_ok {op : BinOp} {k k' : IntKind} {x y : Int} {v : AV} (h : shBin op k x y = some v) (t : TypeId) :
    ∃ z, (binOp op t (.int k x) (.int k' y)).run P W = .ok z W ∧ ∀ C, R C v z := by
  unfold shBin at h
  split at h
  · simp at h
  · rename_i hy
    cases op <;> simp only [Option.some.injEq, reduceCtorEq] at h
    case shl => subst h; exact ⟨_, by simp [binOp, Op.shift, hy], fun _ => .int _ _⟩
    case shr => subst h; exact ⟨_, by simp [binOp, Op.shift, hy], fun _ => .int _ _⟩

theorem strBin_ok {op : BinOp} {x y : List UInt8} {v : AV} (h : strBin op x y = some v) (t : TypeId) :
    ∃ z, (binOp op t (.string ⟨x.toArray⟩) (.string ⟨y.toArray⟩)).run P W = .ok z W ∧ ∀ C, R C v z := by
  have hb : ∀ z : Value, (Op.stringOp op ⟨x.toArray⟩ ⟨y.toArray⟩).run P W = .ok z W → (binOp op t (.string ⟨x.toArray⟩) (.string ⟨y.toArray⟩)).run P W = .ok z W := by
    intro z hz
    rw [← hz]
    cases op <;> rfl
  cases op <;> simp only [strBin, Option.some.injEq, reduceCtorEq] at h
  case add =>
    split at h
    · rename_i hl
      simp only [Option.some.injEq] at h; subst h
      refine ⟨.string ⟨(x ++ y).toArray⟩, hb _ ?_, fun _ => .str _⟩
      have h1 : ¬ ((((ByteArray.mk x.toArray).size + (ByteArray.mk y.toArray).size : Nat) : Int) > IntKind.i64.max) := by
        rw [bytes_size, bytes_size]
        have : IntKind.i64.max = 9223372036854775807 := by decide
        omega
      have h2 : (ByteArray.mk x.toArray) ++ (ByteArray.mk y.toArray) = ⟨(x ++ y).toArray⟩ := by
        apply ByteArray.ext; simp
      simp only [Op.stringOp, if_neg h1, Sem.run_pure, h2]
    · simp at h
  case eql => subst h; exact ⟨.bool (decide (x = y)), hb _ (by simp only [Op.stringOp, bytes_toList, Sem.run_pure, beq_dec, bne_dec]), fun _ => .bool _⟩
  case neq => subst h; exact ⟨.bool (decide (x ≠ y)), hb _ (by simp only [Op.stringOp, bytes_toList, Sem.run_pure, beq_dec, bne_dec]), fun _ => .bool _⟩
  case lss => subst h; exact ⟨_, hb _ (by simp only [Op.stringOp, bytes_toList, Sem.run_pure]), fun _ => .bool _⟩
  case leq => subst h; exact ⟨.bool (Op.bytesLess x y || decide (x = y)), hb _ (by simp only [Op.stringOp, bytes_toList, Sem.run_pure, beq_dec, bne_dec]), fun _ => .bool _⟩
  case gtr => subst h; exact ⟨.bool (!(Op.bytesLess x y || decide (x = y))), hb _ (by simp only [Op.stringOp, bytes_toList, Sem.run_pure, beq_dec, bne_dec]), fun _ => .bool _⟩
  case geq => subst h; exact ⟨_, hb _ (by simp only [Op.stringOp, bytes_toList, Sem.run_pure]), fun _ => .bool _⟩

theorem guard_ok {op : BinOp} {t : TypeId} {x y : Operand} {u v : Value} (h : ¬ (u = .nilIface ∧ v = .nilIface)) (h2 : ∀ xs ys, u = .agg xs → v = .agg ys → P.eqGuardType P.depth t = false) :
    (eqGuard op t x y u v).run P W = .ok () W := by
  have key : (match u, v with
      | .nilIface, .nilIface => (do if (x matches .const _) || (y matches .const _) then return
                                    if ← Op.eqGuardIn Op.maxDepth t u v then unsupported (.noEntry "binop/eql: two nil values of an interface type with methods, neither of them the literal nil") : Sem Unit)
      | .agg _, .agg _ => (do if !(← program).eqGuardType (← program).depth t then return
                              if ← Op.eqGuardIn Op.maxDepth t u v then unsupported (.noEntry "binop/eql: two nil values of an interface type with methods, in a part of a struct or an array") : Sem Unit)
      | _, _ => pure ()).run P W = .ok () W := by
    split
    · exact absurd ⟨rfl, rfl⟩ h
    · simp [h2 _ _ rfl rfl]
    · simp
  cases op <;> first | exact key | rfl

theorem binV_ok {op : BinOp} {x y v : AV} (h : binV op x y = some v) {t : TypeId} {ox oy : Operand} {u w : Value} {C : Cx} (hu : R C x u) (hw : R C y w) :
    ∃ z, (do eqGuard op t ox oy u w; binOp op t u w : Sem Value).run P W = .ok z W ∧ ∀ C, R C v z := by
  have key : ∃ z, (binOp op t u w).run P W = .ok z W ∧ ∀ C, R C v z := by
    unfold binV at h
    split at h
    · have := getInt hu; subst this
      have := getInt hw; subst this
      split at h
      · exact shBin_ok h t
      · rename_i hs
        split at h
        · rename_i hk; subst hk
          exact intBin_ok h (by simpa using hs) t
        · simp at h
    · have := getStr hu; subst this
      have := getStr hw; subst this
      exact strBin_ok h t
    · simp at h
  have hg : (eqGuard op t ox oy u w).run P W = .ok () W := by
    unfold binV at h
    split at h
    · have := getInt hu; subst this
      exact guard_ok (by simp) (by simp)
    · have := getStr hu; subst this
      exact guard_ok (by simp) (by simp)
    · simp at h
  obtain ⟨z, hz, hv⟩ := key
  exact ⟨z, by simp only [Sem.run_bind, hg, Result.andThen_ok]; exact hz, hv⟩

end
end Go.QAbs
