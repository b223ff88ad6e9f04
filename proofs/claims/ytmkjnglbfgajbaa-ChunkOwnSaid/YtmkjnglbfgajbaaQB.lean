/- From the program's code to resolved code. Definitions alone. No condition. -/
import Derived.Test.YtmkjnglbfgajbaaQA2
namespace Go.QAbs
set_option linter.unusedVariables false
set_option linter.unusedSimpArgs false

def ofCell : Value → Option AV
  | .bool b => some (.bool b)
  | .int k n => some (.int k n)
  | .string s => some (.str s.data.toList)
  | .pointer none => some .nilptr
  | .slice none 0 0 => some (.lit [])
  | .map none => some .nilmap
  | .nilFunc => some .nilfunc
  | .nilIface => some .niliface
  | _ => none

def ofConst : Value → Option AV
  | .slice none 0 0 => some .nils
  | .agg cs => (cs.toList.mapM ofCell).map .agg
  | .tuple vs => if vs.isEmpty = true then some (.tup []) else none
  | .func (.func f) a b => if a.isEmpty = true ∧ b.isEmpty = true then some (.func (.func f) [] []) else none
  | v => ofCell v

def opd : Operand → Option Opd
  | .tmp t => some (.s t)
  | .const v => (ofConst v).map .v
  | .func f => some (.v (.func (.func f) [] []))
  | .global _ => none

def sz (P : Program) (t : TypeId) : Option Nat := (P.info? t).map (·.size)

def aggT (P : Program) (t : TypeId) : Option Bool :=
  (P.underlying t).map fun d => match d with
    | .struct _ => true
    | .array _ _ => true
    | _ => false

def zeroC (P : Program) (t : TypeId) : Option AV := ((P.info? t).bind (·.zero)).bind ofConst

def keyK (P : Program) (t : TypeId) : Option Nat :=
  match P.underlying t with
  | some (.int _) => some 0
  | some .string => some 1
  | some .bool => some 2
  | _ => none

/-- The cells of a type whose values are compared cell by cell, each with its kind. -/
def flat (P : Program) : Nat → TypeId → Option (List (Nat × Nat))
  | 0, _ => none
  | d + 1, t =>
    match P.underlying t with
    | some (.int _) => some [(0, 0)]
    | some .string => some [(0, 1)]
    | some .bool => some [(0, 2)]
    | some (.struct fs) =>
      if P.stoodInHeld t = true then none else
      (sz P t).bind fun n => (fs.toList.mapM fun f => if f.name = "_" then none else (flat P d f.type).map fun l => l.map fun p => (f.offset + p.1, p.2)).bind fun l =>
        if l.flatten.all (fun p => decide (p.1 < n)) = true then some l.flatten else none
    | some (.array m e) => (sz P t).bind fun n => (sz P e).bind fun w => (flat P d e).bind fun l =>
        if (((List.range m).map fun i => l.map fun p => (i * w + p.1, p.2)).flatten).all (fun p => decide (p.1 < n)) = true then some ((List.range m).map fun i => l.map fun p => (i * w + p.1, p.2)).flatten else none
    | _ => none

def places (P : Program) (fs : List Field) : Option (List (Nat × Nat)) := fs.mapM fun f => (sz P f.type).map fun n => (f.offset, n)

def opds (l : List Operand) : Option (List Opd) := l.mapM opd

def oopd : Option Operand → Option (Option Opd)
  | none => some none
  | some x => (opd x).map some

/-- What the prover says of a region: the slots that are kept behind it; the operations whose nil slice or literal is to be owned; what its calls may write; which reads see the own region alone. -/
structure Hint where
  keep : List Nat
  own : List Nat
  cm : List (Nat × CM)
  msk : List Nat
  wk : List (Nat × WK)
  js : List Nat

def wkOf : List (Nat × WK) → Nat → PO → PO
  | [], _, o => o
  | (j, k) :: l, i, o => if j = i then .w k o else wkOf l i o

def compBuiltin (P : Program) (b : Builtin) (args : List Operand) (argTypes : List TypeId) : Option PO :=
  match b, args, argTypes with
  | .len, [x], [t] =>
    match P.underlying t with
    | some .string => (opd x).map (.len 0)
    | some (.slice _) => (opd x).map (.len 1)
    | some (.map _ _) => (opd x).map (.len 2)
    | _ => none
  | .append, [s, x], [t, u] =>
    match P.underlying t, P.underlying u with
    | some (.slice e), some (.slice _) => (P.info? e).bind fun i => if i.size = 0 ∨ i.zero.map (·.cells.size) ≠ some i.size then none else (opd s).bind fun s => (opd x).map fun x => .app i.size i.bytes s x
    | some (.slice e), some .string => (P.info? e).bind fun i => if i.size = 1 ∧ i.zero.map (·.cells.size) = some i.size then (opd s).bind fun s => (opd x).map fun x => .app i.size i.bytes s x else none
    | _, _ => none
  | .min, [x, y], _ => (opd x).bind fun x => (opd y).map fun y => .mnx false x y
  | .max, [x, y], _ => (opd x).bind fun x => (opd y).map fun y => .mnx true x y
  | .delete, [m, k], [t, _] =>
    match P.underlying t with
    | some (.map key _) => (keyK P key).bind fun kk => (opd m).bind fun m => (opd k).map fun k => .mdel kk m k
    | _ => none
  | _, _, _ => none

def eqsOf (k : Nat) (ks : List (Nat × Nat)) (a b : Opd) : BinOp → Option PO
  | .eql => some (.eqs false k ks a b)
  | .neq => some (.eqs true k ks a b)
  | _ => none

def compOp (P : Program) (own : Bool) (cm : CM) (o : Oper) : Option PO :=
  match o.op with
  | .move x | .assign x =>
    match own, x with
    | true, .const (.slice none 0 0) =>
      match P.underlying o.type with
      | some (.slice e) => (sz P e).bind fun w => if w = 0 then none else some (.onil w)
      | _ => none
    | _, x => (opd x).map .mv
  | .pick c a b => (opd c).bind fun c => (opd a).bind fun a => (opd b).map fun b => .pick c a b
  | .alloc e =>
    match own, P.underlying e with
    | true, some (.slice u) => (sz P u).bind fun w => if w = 0 then none else
      match (P.info? e).bind (·.zero) with
      | some (.slice none 0 0) => some (.boxnil w)
      | _ => none
    | _, _ => (zeroC P e).map fun z => .box (.v z)
  | .box e x =>
    match own, x with
    | true, .const (.slice none 0 0) =>
      match P.underlying e with
      | some (.slice u) => (sz P u).bind fun w => if w = 0 then none else some (.boxnil w)
      | _ => none
    | _, x => (opd x).map .box
  | .build t parts =>
    match (zeroC P t).map AV.cells, P.underlying t with
    | some z, some (.struct fs) =>
      (places P fs.toList).bind fun ps => (parts.toList.mapM fun p => (ps[p.1]?).bind fun q => (opd p.2).map fun x => (q.1, q.2, x)).map fun l => .build z l
    | some z, some (.array _ e) =>
      (sz P e).bind fun w => (parts.toList.mapM fun p => (opd p.2).map fun x => (p.1 * w, w, x)).map fun l => .build z l
    | _, _ => none
  | .buildSlice t len parts =>
    match P.underlying t with
    | some (.slice e) => (sz P e).bind fun w => if w = 0 ∨ len * w > 16777216 then none else
      (zeroC P e).bind fun z => if z.wide = some w then
        (parts.toList.mapM fun p => (opd p.2).map fun x => (p.1, x)).map fun l => .bslice own w (List.replicate len z) l
      else none
    | _ => none
  | .load t a => (aggT P t).bind fun g => (sz P t).bind fun n => (opd a).map fun a => .ld g n a
  | .store t a x => (sz P t).bind fun n => (opd a).bind fun a => (opd x).map fun x => .st n a x
  | .nilCheck x => (opd x).map .nilck
  | .binOp op t x y _ =>
    (opd x).bind fun a => (opd y).bind fun b =>
      match P.underlying t with
      | some (.int _) => some (.bin op a b)
      | some .string => some (.bin op a b)
      | some .bool => eqsOf 6 [] a b op
      | some (.struct _) | some (.array _ _) =>
        if P.eqGuardType P.depth t = true then none else
        (flat P 6 t).bind fun ks => eqsOf 0 ks a b op
      | some (.pointer _) => eqsOf 3 [] a b op
      | some (.map _ _) => eqsOf 4 [] a b op
      | some (.func _ _ _) => eqsOf 5 [] a b op
      | _ => none
  | .unOp op _ x => (opd x).map fun a => .un op a
  | .convert s d x =>
    match P.underlying s, P.underlying d with
    | some (.int _), some (.int k) => (opd x).map fun a => .cint k a
    | some .string, some .string => (opd x).map .cstr
    | some (.slice e), some .string => match P.underlying e with
      | some (.int .u8) => (opd x).map .b2s
      | _ => none
    | _, _ => none
  | .makeFunc fn f c => (opds f.toList).bind fun f => (opds c.toList).map fun c => .mkf fn f c
  | .makeMap _ none => some .mkmap
  | .makeSlice t l c =>
    match P.underlying t with
    | some (.slice e) => (P.info? e).bind fun i => if i.size = 0 then none else
      (zeroC P e).bind fun z => if z.wide = some i.size then (opd l).bind fun l => (opd c).map fun c => .mkslice i.size i.bytes z l c else none
    | _ => none
  | .slice t x lo hi none =>
    (opd x).bind fun x => (oopd lo).bind fun lo => (oopd hi).bind fun hi =>
      match P.underlying t with
      | some .string => some (.slcS x lo hi)
      | some (.slice e) => (sz P e).bind fun w => if w = 0 then none else some (.slc w x lo hi)
      | _ => none
  | .fieldAddr s x f =>
    match P.underlying s with
    | some (.struct fs) => (fs[f]?).bind fun q => (sz P q.type).bind fun n => if n = 0 then none else (opd x).map fun x => .fadr q.offset x
    | _ => none
  | .field s x f =>
    match P.underlying s with
    | some (.struct fs) => (fs[f]?).bind fun q => (sz P q.type).bind fun n => (aggT P q.type).bind fun g => (opd x).map fun x => .fld g q.offset n x
    | _ => none
  | .indexAddr t x i =>
    match P.underlying t with
    | some (.slice e) => (sz P e).bind fun w => if w = 0 then none else (opd x).bind fun x => (opd i).map fun i => .ixS w x i
    | some (.array n e) => (sz P e).bind fun w => if w = 0 then none else (opd x).bind fun x => (opd i).map fun i => .ixA n w x i
    | _ => none
  | .index t x i =>
    match P.underlying t with
    | some .string => (opd x).bind fun x => (opd i).map fun i => .ixStr x i
    | some (.array n e) => (sz P e).bind fun w => (aggT P e).bind fun g => (opd x).bind fun x => (opd i).map fun i => .ixArr g n w x i
    | _ => none
  | .lookup t x i ok =>
    match P.underlying t with
    | some (.map k e) => (keyK P k).bind fun kk => (zeroC P e).bind fun z => (opd x).bind fun x => (opd i).map fun i => .look kk z ok x i
    | _ => none
  | .mapUpdate t m k v | .insert t m k v =>
    match P.underlying t with
    | some (.map key _) => (keyK P key).bind fun kk => (opd m).bind fun m => (opd k).bind fun k => (opd v).map fun v => .mupd kk m k v
    | _ => none
  | .extract x i => (opd x).map fun x => .ext x i
  | .call c =>
    match c.callee with
    | .builtin b => compBuiltin P b c.args.toList c.argTypes.toList
    | .value f => (opd f).bind fun f => (opds c.args.toList).map fun l => .call cm f l
    | .invoke _ _ => none
  | _ => none

def guardOf (ops : Array Oper) : Option (Nat × Bool) → Option (Option (Nat × Bool))
  | none => some none
  | some (j, b) => ((ops[j]?).bind (·.dst)).map fun t => some (t, b)

def dstOk (nt : Nat) : Option Nat → Bool
  | none => true
  | some d => decide (d < nt)

def cmOf : List (Nat × CM) → Nat → CM
  | [], _ => .norm
  | (j, m) :: l, i => if j = i then m else cmOf l i

def compI (P : Program) (nt : Nat) (ops : Array Oper) (h : Hint) (i : Nat) (o : Oper) : Option PI :=
  if dstOk nt o.dst = true then
    (compOp P (h.own.contains i) (cmOf h.cm i) o).bind fun p => (guardOf ops o.guard).map fun g => { dst := o.dst, guard := g, own := h.msk.contains i, op := wkOf h.wk i p }
  else none

def compIs (P : Program) (nt : Nat) (ops : Array Oper) (h : Hint) : Nat → List Oper → Option (List PI)
  | _, [] => some []
  | i, o :: os => (compI P nt ops h i o).bind fun p => (compIs P nt ops h (i + 1) os).map (p :: ·)

def drawK (draw : Bool) (ops : List Oper) (is : List PI) : Option (List PI) := if draw = true then (if drawOk ops is = true then some is else none) else some is

def regOf (js keep : List Nat) (is : List PI) : PC := if js.isEmpty = true then .reg keep is else .regH js keep is

def comp (P : Program) (nt : Nat) : List Hint → Code → Option (PC × List Hint)
  | hs, .skip => some (.skip, hs)
  | hs, .ret => some (.ret, hs)
  | hs, .exit id => some (.exit id, hs)
  | hs, .seq a b => (comp P nt hs a).bind fun r => (comp P nt r.2 b).map fun q => (.seq r.1 q.1, q.2)
  | hs, .cond c a b => (opd c).bind fun c => (comp P nt hs a).bind fun r => (comp P nt r.2 b).map fun q => (.ite c r.1 q.1, q.2)
  | hs, .block id b => (comp P nt hs b).map fun r => (.block id r.1, r.2)
  | hs, .loop b => (comp P nt hs b).map fun r => (.loop r.1, r.2)
  | h :: hs, .region _ ops draw => ((compIs P nt ops h 0 ops.toList).bind (drawK draw ops.toList)).map fun is => (regOf h.js h.keep is, hs)
  | _, _ => none

def compRes (P : Program) : ResultVar → Option RV
  | .tmp t => some (.s t)
  | .cell a t => (aggT P t).bind fun g => (sz P t).map fun n => .c a g n

def compF (P : Program) (keep : Bool) (hs : List Hint) (fn : Func) : Option PF :=
  fn.body.bind fun c => (comp P fn.ntmps hs c).bind fun r => (fn.results.toList.mapM (compRes P)).map fun rs => { keep, body := r.1, res := rs }

end Go.QAbs
