/- The abstract evaluator: values, store, resolved code, evaluation. Definitions alone. No condition. -/
import Derived.Calls
namespace Go.QAbs
set_option linter.unusedVariables false
set_option linter.unusedSimpArgs false

/-- Abstract values. `lit`: an immutable slice, its contents inline. `ref`: a slice of an owned block. `lptr`: a pointer into an element of an immutable slice. -/
inductive AV where
  | any
  | undef
  | bool (b : Bool)
  | int (k : IntKind) (n : Int)
  | str (s : List UInt8)
  | nilptr
  | ptr (lv ix ver i o : Nat)
  | lptr (e : AV) (o : Nat)
  | nils
  | lit (es : List AV)
  | ref (lv ix ver s n : Nat)
  | nilmap
  | map (lv ix : Nat)
  | func (fn : Fn) (first captured : List AV)
  | nilfunc
  | iface (t : TypeId) (v : AV)
  | niliface
  | agg (cs : List AV)
  | tup (vs : List AV)

instance : Inhabited AV := ⟨.any⟩

def AV.cells : AV → List AV
  | .agg cs => cs
  | v => [v]

/-- May it lie in one cell of memory? -/
def AV.one : AV → Bool
  | .agg _ => false
  | .tup _ => false
  | .undef => false
  | .any => false
  | _ => true

/-- How many cells a value takes; none: it can't lie in memory, or nothing is known. -/
def AV.wide : AV → Option Nat
  | .agg cs => if cs.all AV.one = true then some cs.length else none
  | .tup _ => none
  | .undef => none
  | .any => none
  | _ => some 1

inductive Blk where
  | arr (w ver : Nat) (es : List AV)
  | map (es : List (AV × AV))
  | dead
  | hole (j : Nat)

instance : Inhabited Blk := ⟨.dead⟩

/-- The store: the older regions (each with its mark 'only read'), the mark of the current one, and the current one. -/
structure St where
  A : List (Bool × List Blk)
  ro : Bool
  L : List Blk

def St.lv (st : St) : Nat := st.A.length

/-- A hole is kept for a block that is still to be made: nothing is seen there. -/
def vis : Option Blk → Option Blk
  | some (.hole _) => none
  | b => b

def St.get (st : St) (lv ix : Nat) : Option Blk :=
  if lv = st.A.length then vis st.L[ix]? else (st.A[lv]?).bind fun r => vis r.2[ix]?

def putOld (st : St) (lv ix : Nat) (b : Blk) : Option (Bool × List Blk) → Option St
  | some (false, r) => if ix < r.length then some { st with A := st.A.set lv (false, r.set ix b) } else none
  | _ => none

def St.put (st : St) (lv ix : Nat) (b : Blk) : Option St :=
  if lv = st.A.length then
    if st.ro = true then none else if ix < st.L.length then some { st with L := st.L.set ix b } else none
  else putOld st lv ix b st.A[lv]?

def St.new (st : St) (b : Blk) : Option (Nat × St) :=
  if st.ro = true then none else some (st.L.length, { st with L := st.L ++ [b] })

def St.allRo (st : St) : St := { A := st.A.map fun r => (true, r.2), ro := true, L := st.L }

/-! ### Sealing: what is handed to an older region keeps no reference to a younger one -/

def consK (v : AV) (q : List AV × St) : Option (List AV × St) := some (v :: q.1, q.2)

def mapSt (f : St → AV → Option (AV × St)) : St → List AV → Option (List AV × St)
  | st, [] => some ([], st)
  | st, v :: vs => (f st v).bind fun r => (mapSt f r.2 vs).bind (consK r.1)

/-- The elements of an owned slice. -/
def refB (ver s n : Nat) : Option Blk → Option (List AV)
  | some (.arr _ ver' es) => if ver = ver' ∧ s + n ≤ es.length then some ((es.drop s).take n) else none
  | _ => none

def litK (q : List AV × St) : Option (AV × St) := some (.lit q.1, q.2)
def aggK (q : List AV × St) : Option (AV × St) := some (.agg q.1, q.2)
def tupK (q : List AV × St) : Option (AV × St) := some (.tup q.1, q.2)
def ifaceK (t : TypeId) (q : AV × St) : Option (AV × St) := some (.iface t q.1, q.2)

def sealV : Nat → Nat → St → AV → Option (AV × St)
  | 0, _, _, _ => none
  | n + 1, b, st, v =>
    match v with
    | .ptr lv ix ver i o => if lv < b then some (.ptr lv ix ver i o, st) else none
    | .map lv ix => if lv < b then some (.map lv ix, st) else none
    | .ref lv ix ver s m =>
      if lv < b then some (.ref lv ix ver s m, st)
      else if lv = st.A.length ∧ st.ro = false then
        (refB ver s m st.L[ix]?).bind fun es => (mapSt (sealV n 0) { st with L := st.L.set ix .dead } es).bind litK
      else none
    | .nils => some (.lit [], st)
    | .agg cs => (mapSt (sealV n b) st cs).bind aggK
    | .tup cs => (mapSt (sealV n b) st cs).bind tupK
    | .func fn f c => (mapSt (sealV n b) st f).bind fun r => (mapSt (sealV n b) r.2 c).bind fun q => some (.func fn r.1 q.1, q.2)
    | .iface t x => (sealV n b st x).bind (ifaceK t)
    | v => some (v, st)

/-- How deep sealing goes. -/
def deep : Nat := 6

/-! ### Resolved code -/

inductive Opd where
  | s (t : Nat)
  | v (a : AV)

abbrev Env := List (Nat × AV)

def look : Env → Nat → AV
  | [], _ => .any
  | (k, v) :: e, t => if k = t then v else look e t

def Opd.get (e : Env) : Opd → AV
  | .s t => look e t
  | .v a => a

/-- What a call may write: everything; nothing of the caller's own region; nothing at all; everything, in a region of its own; nothing, in a region of its own; everything, in a region of its own, of which the slice that is handed back becomes the caller's. -/
inductive CM where
  | norm | own | pure | inner | pin | move

/-- What is said beside an operation: it sees no memory; its values hold no memory; it appends to nil; it sees no block of these pointers; it writes a value that holds no memory into the block of this pointer; its new block fills the hole j. -/
inductive WK where
  | blind
  | imm
  | app0
  | hide (as : List Opd)
  | plain (b : Opd)
  | here (j : Nat)

inductive PO where
  | mv (x : Opd)
  | pick (c a b : Opd)
  | onil (w : Nat)
  | box (x : Opd)
  | boxnil (w : Nat)
  | build (z : List AV) (parts : List (Nat × Nat × Opd))
  | bslice (own : Bool) (w : Nat) (z : List AV) (parts : List (Nat × Opd))
  | ld (agg : Bool) (n : Nat) (a : Opd)
  | st (n : Nat) (a x : Opd)
  | nilck (x : Opd)
  | bin (op : BinOp) (x y : Opd)
  | eqs (neg : Bool) (kind : Nat) (ks : List (Nat × Nat)) (x y : Opd)
  | un (op : UnOp) (x : Opd)
  | cint (k : IntKind) (x : Opd)
  | cstr (x : Opd)
  | b2s (x : Opd)
  | mkf (fn : Fn) (f c : List Opd)
  | mkmap
  | mkslice (w bytes : Nat) (z : AV) (l c : Opd)
  | slcS (x : Opd) (lo hi : Option Opd)
  | slc (w : Nat) (x : Opd) (lo hi : Option Opd)
  | fadr (off : Nat) (x : Opd)
  | fld (agg : Bool) (off n : Nat) (x : Opd)
  | ixS (w : Nat) (x i : Opd)
  | ixA (len w : Nat) (x i : Opd)
  | ixStr (x i : Opd)
  | ixArr (agg : Bool) (len w : Nat) (x i : Opd)
  | look (kk : Nat) (z : AV) (ok : Bool) (x i : Opd)
  | mupd (kk : Nat) (x k v : Opd)
  | mdel (kk : Nat) (x k : Opd)
  | len (k : Nat) (x : Opd)
  | app (w bytes : Nat) (s x : Opd)
  | mnx (mx : Bool) (x y : Opd)
  | ext (x : Opd) (i : Nat)
  | call (m : CM) (f : Opd) (args : List Opd)
  | w (k : WK) (o : PO)

/-- `own`: an operation that only reads is evaluated with the older regions out of sight. -/
structure PI where
  dst : Option Nat
  guard : Option (Nat × Bool)
  own : Bool
  op : PO

inductive PC where
  | skip
  | ret
  | exit (id : Nat)
  | seq (a b : PC)
  | ite (c : Opd) (a b : PC)
  | block (id : Nat) (b : PC)
  | loop (b : PC)
  | reg (keep : List Nat) (is : List PI)
  | regH (js keep : List Nat) (is : List PI)

inductive RV where
  | s (t : Nat)
  | c (t : Nat) (agg : Bool) (n : Nat)

structure PF where
  keep : Bool
  body : PC
  res : List RV

/-! ### The meaning of an operation that is no call -/

def splice (cs : List AV) (off : Nat) (vs : List AV) : List AV := cs.take off ++ vs ++ cs.drop (off + vs.length)

def AV.isAny : AV → Bool
  | .any => true
  | _ => false

/-- The part of a value of `w` cells that begins at cell `o` and has `n`. -/
def partOf (e : AV) (agg : Bool) (o n : Nat) : Option AV :=
  if e.isAny = true then none
  else if agg = true then (if o + n ≤ e.cells.length then some (.agg ((e.cells.drop o).take n)) else none)
  else e.cells[o]?

/-- An element whose cells from `o` on become those of `x`. -/
def elemSet (w : Nat) (e : AV) (o n : Nat) (x : AV) : Option AV :=
  if x.wide = some n then
    if o = 0 ∧ n = w then some x
    else if e.isAny = true then none
    else if e.cells.length = w ∧ o + n ≤ w then some (.agg (splice e.cells o x.cells)) else none
  else none

def fillV : List AV → List (Nat × Nat × AV) → Option (List AV)
  | cs, [] => some cs
  | cs, (off, size, v) :: rest =>
    if v.wide = some size ∧ off + size ≤ cs.length then fillV (splice cs off v.cells) rest else none

def fillE (w : Nat) : List AV → List (Nat × AV) → Option (List AV)
  | es, [] => some es
  | es, (i, v) :: rest =>
    if v.wide = some w ∧ i < es.length then fillE w (es.set i v) rest else none

def bytesAV (l : List UInt8) : List AV := l.map fun b => .int .u8 b.toNat

/-- The elements that a slice or a string has. -/
def elems (st : St) : AV → Option (List AV)
  | .nils => some []
  | .lit es => some es
  | .str l => some (bytesAV l)
  | .ref lv ix ver s n => refB ver s n (st.get lv ix)
  | _ => none

def mapLen : Option Blk → Option Nat
  | some (.map es) => some es.length
  | _ => none

/-- What len is asked of: 0 a string, 1 a slice, 2 a map. -/
def lenOf (st : St) : Nat → AV → Option Nat
  | 1, .nils => some 0
  | 1, .lit es => some es.length
  | 0, .str l => some l.length
  | 1, .ref _ _ _ _ n => some n
  | 2, .nilmap => some 0
  | 2, .map lv ix => mapLen (st.get lv ix)
  | _, _ => none

def keyEq : AV → AV → Option Bool
  | .int k a, .int k' b => if k = k' then some (a == b) else none
  | .str a, .str b => some (a == b)
  | .bool a, .bool b => some (a == b)
  | _, _ => none

def findE (k : AV) : List (AV × AV) → Option (Option AV)
  | [] => some none
  | e :: es => (keyEq k e.1).bind fun b => if b = true then some (some e.2) else findE k es

def putE (k v : AV) : List (AV × AV) → Option (List (AV × AV))
  | [] => some [(k, v)]
  | e :: es => (keyEq k e.1).bind fun b => if b = true then some ((k, v) :: es) else (putE k v es).map (e :: ·)

def delE (k : AV) : List (AV × AV) → Option (List (AV × AV))
  | [] => some []
  | e :: es => (keyEq k e.1).bind fun b => if b = true then some es else (delE k es).map (e :: ·)

/-- A key of the kind that the map has: 0 int, 1 string, 2 bool. -/
def keyIs : Nat → AV → Bool
  | 0, .int _ _ => true
  | 1, .str _ => true
  | 2, .bool _ => true
  | _, _ => false

def isKey : AV → Bool
  | .int _ _ => true
  | .str _ => true
  | .bool _ => true
  | _ => false

def intBin (op : BinOp) (k : IntKind) (x y : Int) : Option AV :=
  match op with
  | .add => some (.int k (k.wrap (x + y)))
  | .sub => some (.int k (k.wrap (x - y)))
  | .mul => some (.int k (k.wrap (x * y)))
  | .quo => if y = 0 then none else some (.int k (k.wrap (x.tdiv y)))
  | .rem => if y = 0 then none else some (.int k (x.tmod y))
  | .and => some (.int k (k.wrap (BitVec.ofInt k.bits x &&& BitVec.ofInt k.bits y).toNat))
  | .or => some (.int k (k.wrap (BitVec.ofInt k.bits x ||| BitVec.ofInt k.bits y).toNat))
  | .xor => some (.int k (k.wrap (BitVec.ofInt k.bits x ^^^ BitVec.ofInt k.bits y).toNat))
  | .eql => some (.bool (decide (x = y)))
  | .neq => some (.bool (decide (x ≠ y)))
  | .lss => some (.bool (decide (x < y)))
  | .leq => some (.bool (decide (x ≤ y)))
  | .gtr => some (.bool (decide (y < x)))
  | .geq => some (.bool (decide (y ≤ x)))
  | _ => none

def strBin (op : BinOp) (x y : List UInt8) : Option AV :=
  match op with
  | .add => if x.length + y.length < 4611686018427387904 then some (.str (x ++ y)) else none
  | .eql => some (.bool (decide (x = y)))
  | .neq => some (.bool (decide (x ≠ y)))
  | .lss => some (.bool (Op.bytesLess x y))
  | .leq => some (.bool (Op.bytesLess x y || decide (x = y)))
  | .gtr => some (.bool (!(Op.bytesLess x y || decide (x = y))))
  | .geq => some (.bool (!(Op.bytesLess x y)))
  | _ => none

def shBin (op : BinOp) (k : IntKind) (x y : Int) : Option AV :=
  if y < 0 then none else
    match op with
    | .shl => some (.int k (k.wrap (x * 2 ^ (min y.toNat k.bits))))
    | .shr => some (.int k (x.fdiv (2 ^ (min y.toNat k.bits))))
    | _ => none

def isSh : BinOp → Bool
  | .shl => true
  | .shr => true
  | _ => false

def binV (op : BinOp) : AV → AV → Option AV
  | .int k a, .int k' b => if isSh op = true then shBin op k a b else if k = k' then intBin op k a b else none
  | .str a, .str b => strBin op a b
  | _, _ => none

/-- Equality of two cells of a kind: 0 int, 1 string, 2 bool. -/
def eqCell : Nat → AV → AV → Option Bool
  | 0, .int k a, .int k' b => if k = k' then some (decide (a = b)) else none
  | 1, .str a, .str b => some (decide (a = b))
  | 2, .bool a, .bool b => some (a == b)
  | _, _, _ => none

def eqCells (xs ys : List AV) : List (Nat × Nat) → Option Bool
  | [] => some true
  | p :: ps => (xs[p.1]?).bind fun x => (ys[p.1]?).bind fun y => (eqCell p.2 x y).bind fun b => if b = true then eqCells xs ys ps else some false

/-- '==' with nil, of kind 3 a pointer, 4 a map, 5 a function value; of kind 6: of two booleans. -/
def eqNil : Nat → AV → AV → Option Bool
  | 3, .nilptr, .nilptr => some true
  | 3, .nilptr, .ptr .. => some false
  | 3, .nilptr, .lptr .. => some false
  | 3, .ptr .., .nilptr => some false
  | 3, .lptr .., .nilptr => some false
  | 4, .nilmap, .nilmap => some true
  | 4, .nilmap, .map .. => some false
  | 4, .map .., .nilmap => some false
  | 5, .nilfunc, .nilfunc => some true
  | 5, .nilfunc, .func .. => some false
  | 5, .func .., .nilfunc => some false
  | 6, .bool a, .bool b => some (a == b)
  | _, _, _ => none

/-- '==' on structs and arrays of plain cells (kind 0), and with nil. -/
def eqV (ks : List (Nat × Nat)) : Nat → AV → AV → Option Bool
  | 0, .agg xs, .agg ys => eqCells xs ys ks
  | k + 1, x, y => eqNil (k + 1) x y
  | _, _, _ => none

def unV : UnOp → AV → Option AV
  | .neg, .int k n => some (.int k (k.wrap (0 - n)))
  | .not, .bool b => some (.bool (!b))
  | _, _ => none

/-- A bound of a slice expression: at most `y`; `d` where it is left out. -/
def boundV (y d : Nat) : Option AV → Option Nat
  | none => some d
  | some (.int _ i) => if 0 ≤ i ∧ i ≤ y then some i.toNat else none
  | some _ => none

def oget (e : Env) : Option Opd → Option AV
  | none => none
  | some o => some (o.get e)

def byteOf : AV → Option UInt8
  | .int .u8 n => some (UInt8.ofNat n.toNat)
  | _ => none

def allBytes : List AV → Option (List UInt8)
  | [] => some []
  | v :: vs => (byteOf v).bind fun b => (allBytes vs).map (b :: ·)

def loadB (agg : Bool) (n ver i o : Nat) : Option Blk → Option AV
  | some (.arr _ ver' es) => if ver = ver' then (es[i]?).bind fun e => partOf e agg o n else none
  | _ => none

def loadP (st : St) (agg : Bool) (n : Nat) : AV → Option AV
  | .ptr lv ix ver i o => loadB agg n ver i o (st.get lv ix)
  | .lptr e o => partOf e agg o n
  | _ => none

def storeB (st : St) (n lv ix ver i o : Nat) (x : AV) : Option Blk → Option St
  | some (.arr w ver' es) =>
    if ver = ver' then (es[i]?).bind fun e => (elemSet w e o n x).bind fun e' => st.put lv ix (.arr w ver (es.set i e')) else none
  | _ => none

def storeK (n lv ix ver i o : Nat) (r : AV × St) : Option St := storeB r.2 n lv ix ver i o r.1 (r.2.get lv ix)

def storeP (st : St) (n : Nat) (x : AV) : AV → Option St
  | .ptr lv ix ver i o => (sealV deep (lv + 1) st x).bind (storeK n lv ix ver i o)
  | _ => none

def indexOf (len : Nat) : AV → Option Nat
  | .int _ n => if 0 ≤ n ∧ n < len then some n.toNat else none
  | _ => none

def sameW (w : Nat) (es : List AV) : Bool := es.all fun v => v.wide == some w

def newRefK (lv n : Nat) (r : Nat × St) : Option (AV × St) := some (.ref lv r.1 0 0 n, r.2)
def newPtrK (lv : Nat) (r : Nat × St) : Option (AV × St) := some (.ptr lv r.1 0 0 0, r.2)
def newMapK (lv : Nat) (r : Nat × St) : Option (AV × St) := some (.map lv r.1, r.2)

def appB (st : St) (w bytes lv ix ver s n : Nat) (ys : List AV) : Option Blk → Option (AV × St)
  | some (.arr w' ver' es) =>
    if ver = ver' ∧ w = w' ∧ s + n ≤ es.length ∧ n + ys.length < 4294967296 ∧ bytes ≤ 4096 then
      (st.put lv ix (.arr w (ver + 1) ((es.drop s).take n ++ ys))).bind fun st' => some (.ref lv ix (ver + 1) 0 (n + ys.length), st')
    else none
  | _ => none

def appK (w bytes lv ix ver s n : Nat) (r : List AV × St) : Option (AV × St) := appB r.2 w bytes lv ix ver s n r.1 (r.2.get lv ix)

def appendV (st : St) (w bytes : Nat) (ys : List AV) : AV → Option (AV × St)
  | .nils => if ys.length < 4294967296 ∧ bytes ≤ 4096 ∧ sameW w ys = true then (st.new (.arr w 0 ys)).bind (newRefK st.A.length ys.length) else none
  | .lit es => if ys.isEmpty = true then some (.lit es, st) else none
  | .ref lv ix ver s n => if sameW w ys = true then (mapSt (sealV deep (lv + 1)) st ys).bind (appK w bytes lv ix ver s n) else none
  | _ => none

def pickV (a b : AV) : AV → Option AV
  | .bool t => some (if t = true then a else b)
  | _ => none

def nilckV : AV → Option AV
  | .ptr lv ix ver i o => some (.ptr lv ix ver i o)
  | .lptr v o => some (.lptr v o)
  | .func (.func f) a c => some (.func (.func f) a c)
  | _ => none

def cintV (k : IntKind) : AV → Option AV
  | .int _ n => some (.int k (k.wrap n))
  | _ => none

def cstrV : AV → Option AV
  | .str l => some (.str l)
  | _ => none

def b2sV (st : St) : AV → Option AV
  | .str _ => none
  | v => (elems st v).bind fun es => (allBytes es).bind fun l => some (.str l)

def mkslV (st : St) (w bytes : Nat) (z : AV) : AV → AV → Option (AV × St)
  | .int .i64 l, .int .i64 c =>
    if 0 ≤ l ∧ l ≤ c ∧ c < 4294967296 ∧ bytes ≤ 4096 then
      (st.new (.arr w 0 (List.replicate l.toNat z))).bind (newRefK st.A.length l.toNat)
    else none
  | _, _ => none

def slcSV (lo hi : Option AV) : AV → Option AV
  | .str s => (boundV s.length s.length hi).bind fun h => (boundV h 0 lo).bind fun l => some (.str ((s.drop l).take (h - l)))
  | _ => none

def wIs (w ver : Nat) : Option Blk → Bool
  | some (.arr w' ver' _) => ver == ver' && w == w'
  | _ => false

def slcV (st : St) (w : Nat) (lo hi : Option AV) : AV → Option AV
  | .lit es => (boundV es.length es.length hi).bind fun h => (boundV h 0 lo).bind fun l =>
    if sameW w es = true then some (.lit ((es.drop l).take (h - l))) else none
  | .nils => (boundV 0 0 hi).bind fun h => (boundV h 0 lo).bind fun _ => some .nils
  | .ref lv ix ver s n => (boundV n n hi).bind fun h => (boundV h 0 lo).bind fun l =>
    if wIs w ver (st.get lv ix) = true then some (.ref lv ix ver (s + l) (h - l)) else none
  | _ => none

def fadrV (off : Nat) : AV → Option AV
  | .ptr lv ix ver i o => some (.ptr lv ix ver i (o + off))
  | .lptr v o => some (.lptr v (o + off))
  | _ => none

def fldV (agg : Bool) (off n : Nat) : AV → Option AV
  | .agg cs => partOf (.agg cs) agg off n
  | _ => none

def ixSV (st : St) (w : Nat) (i : AV) : AV → Option AV
  | .lit es => (indexOf es.length i).bind fun n => (es[n]?).bind fun v => if v.wide = some w then some (.lptr v 0) else none
  | .ref lv ix ver s m => (indexOf m i).bind fun n => if wIs w ver (st.get lv ix) = true then some (.ptr lv ix ver (s + n) 0) else none
  | _ => none

def ixAV (len w : Nat) (i : AV) : AV → Option AV
  | .ptr lv ix ver j o => (indexOf len i).bind fun n => some (.ptr lv ix ver j (o + n * w))
  | .lptr v o => (indexOf len i).bind fun n => some (.lptr v (o + n * w))
  | _ => none

def ixStrV (i : AV) : AV → Option AV
  | .str s => (indexOf s.length i).bind fun n => (s[n]?).bind fun b => some (.int .u8 b.toNat)
  | _ => none

def ixArrV (agg : Bool) (len w : Nat) (i : AV) : AV → Option AV
  | .agg cs => (indexOf len i).bind fun n => partOf (.agg cs) agg (n * w) w
  | _ => none

def mapB : Option Blk → Option (List (AV × AV))
  | some (.map es) => some es
  | _ => none

def mapOf (st : St) : AV → Option (List (AV × AV))
  | .nilmap => some []
  | .map lv ix => mapB (st.get lv ix)
  | _ => none

def lookR (z : AV) (ok : Bool) : Option AV → AV
  | some v => if ok = true then .tup [v, .bool true] else v
  | none => if ok = true then .tup [z, .bool false] else z

def lookV (st : St) (kk : Nat) (z : AV) (ok : Bool) (k m : AV) : Option AV :=
  (mapOf st m).bind fun es => if keyIs kk k = true then (findE k es).map (lookR z ok) else none

def mupdK (lv ix : Nat) (k : AV) (r : AV × St) : Option St :=
  (mapB (r.2.get lv ix)).bind fun es => (putE k r.1 es).bind fun es' => r.2.put lv ix (.map es')

def mupdV (st : St) (kk : Nat) (k v : AV) : AV → Option St
  | .map lv ix => if keyIs kk k = true then (sealV deep (lv + 1) st v).bind (mupdK lv ix k) else none
  | _ => none

def mdelV (st : St) (kk : Nat) (k : AV) : AV → Option St
  | .map lv ix => if keyIs kk k = true then (mapB (st.get lv ix)).bind fun es => (delE k es).bind fun es' => st.put lv ix (.map es') else none
  | _ => none

def mnxV (mx : Bool) : AV → AV → Option AV
  | .int k a, .int k' b => if k = k' then some (.int k (if mx = true then (if a < b then b else a) else (if b < a then b else a))) else none
  | _, _ => none

def extV (i : Nat) : AV → Option AV
  | .tup vs => vs[i]?
  | _ => none

def boxNilK (lv : Nat) (r : Nat × St) : Option (AV × St) := (r.2.new (.arr 1 0 [.ref lv r.1 0 0 0])).bind (newPtrK lv)

def partsV (e : Env) : List (Nat × Nat × Opd) → List (Nat × Nat × AV)
  | [] => []
  | p :: ps => (p.1, p.2.1, p.2.2.get e) :: partsV e ps

def partsE (e : Env) : List (Nat × Opd) → List (Nat × AV)
  | [] => []
  | p :: ps => (p.1, p.2.get e) :: partsE e ps

def gets (e : Env) : List Opd → List AV
  | [] => []
  | o :: os => o.get e :: gets e os

def bslK (own : Bool) (w : Nat) (st : St) (es : List AV) : Option (AV × St) :=
  if own = true then (st.new (.arr w 0 es)).bind (newRefK st.A.length es.length)
  else if es.isEmpty = true then some (.nils, st)
  else (mapSt (sealV deep 0) st es).bind litK

/-- A value, the store as it is. -/
def ret1 (st : St) (v : AV) : Option (AV × St) := some (v, st)
def retU (st : St) : Option (AV × St) := some (.undef, st)
def retT (st : St) : Option (AV × St) := some (.tup [], st)

def evalPO (e : Env) (st : St) : PO → Option (AV × St)
  | .mv x => some (x.get e, st)
  | .pick c a b => (pickV (a.get e) (b.get e) (c.get e)).bind (ret1 st)
  | .onil w => (st.new (.arr w 0 [])).bind (newRefK st.A.length 0)
  | .box x => (x.get e).wide.bind fun w => (st.new (.arr w 0 [x.get e])).bind (newPtrK st.A.length)
  | .boxnil w => (st.new (.arr w 0 [])).bind (boxNilK st.A.length)
  | .build z parts => (fillV z (partsV e parts)).bind fun cs => some (.agg cs, st)
  | .bslice own w z parts => (fillE w z (partsE e parts)).bind (bslK own w st)
  | .ld agg n a => (loadP st agg n (a.get e)).bind (ret1 st)
  | .st n a x => (storeP st n (x.get e) (a.get e)).bind retU
  | .nilck x => (nilckV (x.get e)).bind (ret1 st)
  | .bin op x y => (binV op (x.get e) (y.get e)).bind (ret1 st)
  | .eqs neg kind ks x y => (eqV ks kind (x.get e) (y.get e)).bind fun b => some (.bool (if neg = true then !b else b), st)
  | .un op x => (unV op (x.get e)).bind (ret1 st)
  | .cint k x => (cintV k (x.get e)).bind (ret1 st)
  | .cstr x => (cstrV (x.get e)).bind (ret1 st)
  | .b2s x => (b2sV st (x.get e)).bind (ret1 st)
  | .mkf fn f c => some (.func fn (gets e f) (gets e c), st)
  | .mkmap => (st.new (.map [])).bind (newMapK st.A.length)
  | .mkslice w bytes z l c => mkslV st w bytes z (l.get e) (c.get e)
  | .slcS x lo hi => (slcSV (oget e lo) (oget e hi) (x.get e)).bind (ret1 st)
  | .slc w x lo hi => (slcV st w (oget e lo) (oget e hi) (x.get e)).bind (ret1 st)
  | .fadr off x => (fadrV off (x.get e)).bind (ret1 st)
  | .fld agg off n x => (fldV agg off n (x.get e)).bind (ret1 st)
  | .ixS w x i => (ixSV st w (i.get e) (x.get e)).bind (ret1 st)
  | .ixA len w x i => (ixAV len w (i.get e) (x.get e)).bind (ret1 st)
  | .ixStr x i => (ixStrV (i.get e) (x.get e)).bind (ret1 st)
  | .ixArr agg len w x i => (ixArrV agg len w (i.get e) (x.get e)).bind (ret1 st)
  | .look kk z ok x i => (lookV st kk z ok (i.get e) (x.get e)).bind (ret1 st)
  | .mupd kk x k v => (mupdV st kk (k.get e) (v.get e) (x.get e)).bind retU
  | .mdel kk x k => (mdelV st kk (k.get e) (x.get e)).bind retT
  | .len k x => (lenOf st k (x.get e)).bind fun n => some (.int .i64 n, st)
  | .app w bytes s x => (elems st (x.get e)).bind fun ys => appendV st w bytes ys (s.get e)
  | .mnx mx x y => (mnxV mx (x.get e) (y.get e)).bind (ret1 st)
  | .ext x i => (extV i (x.get e)).bind (ret1 st)
  | .call .. => none
  | .w .. => none

/-! ### What is said beside an operation -/

/-- A value that holds no memory of a region. -/
def imm : Nat → AV → Bool
  | 0, _ => false
  | n + 1, .agg cs => cs.all (imm n)
  | n + 1, .tup cs => cs.all (imm n)
  | _ + 1, .ptr .. => false
  | _ + 1, .ref .. => false
  | _ + 1, .map .. => false
  | _ + 1, .nils => false
  | _ + 1, .func .. => false
  | _ + 1, .iface .. => false
  | _ + 1, _ => true

def St.blank : St := ⟨[], true, []⟩

def hideL (P : Nat → Bool) : Nat → List Blk → List Blk
  | _, [] => []
  | i, b :: bs => (if P i = true then .hole 0 else b) :: hideL P (i + 1) bs

def hideA (P : Nat → Nat → Bool) : Nat → List (Bool × List Blk) → List (Bool × List Blk)
  | _, [] => []
  | i, r :: rs => (r.1, hideL (P i) 0 r.2) :: hideA P (i + 1) rs

/-- Some blocks out of sight. -/
def St.hide (P : Nat → Nat → Bool) (st : St) : St := ⟨hideA P 0 st.A, st.ro, hideL (P st.A.length) 0 st.L⟩

def atPtr (lv ix : Nat) : AV → Bool
  | .ptr lv' ix' _ _ _ => lv == lv' && ix == ix'
  | _ => false

def anyPtr (vs : List AV) (lv ix : Nat) : Bool := vs.any (atPtr lv ix)

def sameBlk : AV → AV → Bool
  | .ptr lv ix _ _ _, .ptr lv' ix' _ _ _ => lv == lv' && ix == ix'
  | _, _ => false

/-- The last hole with that number. -/
def findH (j : Nat) : List Blk → Option Nat
  | [] => none
  | b :: bs => match findH j bs with
    | some i => some (i + 1)
    | none => match b with
      | .hole k => if k = j then some 0 else none
      | _ => none

def mkslB (w bytes : Nat) (z : AV) : AV → AV → Option (Blk × Nat)
  | .int .i64 l, .int .i64 c => if 0 ≤ l ∧ l ≤ c ∧ c < 4294967296 ∧ bytes ≤ 4096 then some (.arr w 0 (List.replicate l.toNat z), l.toNat) else none
  | _, _ => none

/-- The new block of an operation, and its value, given the place. -/
def newOf (e : Env) : PO → Option (Blk × (Nat → Nat → AV))
  | .box x => (x.get e).wide.bind fun w => some (.arr w 0 [x.get e], fun lv ix => .ptr lv ix 0 0 0)
  | .mkslice w bytes z l c => (mkslB w bytes z (l.get e) (c.get e)).bind fun r => some (r.1, fun lv ix => .ref lv ix 0 0 r.2)
  | _ => none

def immB : Blk → Bool
  | .arr .. => true
  | .map _ => true
  | _ => false

def fillK (st : St) (b : Blk × (Nat → Nat → AV)) (i : Nat) : Option (AV × St) := some (b.2 st.A.length i, { st with L := st.L.set i b.1 })

def hereV (st : St) (j : Nat) (b : Blk × (Nat → Nat → AV)) : Option (AV × St) :=
  if st.ro = false ∧ immB b.1 = true then (findH j st.L).bind (fillK st b) else none

def immK (st : St) (es : List AV) : Option (AV × St) :=
  if es.all (imm 6) = true then some (if es.isEmpty = true then .nils else .lit es, st) else none

def isNils : AV → Bool
  | .nils => true
  | _ => false

def pureK (st : St) (r : AV × St) : Option (AV × St) := some (r.1, st)

def immW (e : Env) (st : St) : PO → Option (AV × St)
  | .bslice false w z parts => (fillE w z (partsE e parts)).bind (immK st)
  | _ => none

def app0W (e : Env) (st : St) : PO → Option (AV × St)
  | .app w bytes s x => if isNils (s.get e) = true then evalPO e st (.app w bytes s x) else none
  | _ => none

def plainW (e : Env) (st : St) (b : Opd) : PO → Option (AV × St)
  | .st n a x => if sameBlk (a.get e) (b.get e) = true ∧ imm 6 (x.get e) = true then evalPO e st (.st n a x) else none
  | _ => none

/-- The operations that change no store. -/
def PO.reads : PO → Bool
  | .onil _ | .box _ | .boxnil _ | .bslice .. | .st .. | .mkmap | .mkslice .. | .mupd .. | .mdel .. | .app .. | .call .. | .w .. => false
  | _ => true

def evalW (e : Env) (st : St) (o : PO) : WK → Option (AV × St)
  | .blind => if o.reads = true then (evalPO e .blank o).bind (pureK st) else none
  | .imm => immW e st o
  | .app0 => app0W e st o
  | .hide as => if o.reads = true then (evalPO e (st.hide (anyPtr (gets e as))) o).bind (pureK st) else none
  | .plain b => plainW e st b o
  | .here j => (newOf e o).bind (hereV st j)

/-! ### Running code -/

inductive Ex where
  | norm
  | ex (id : Nat)
  | ret

abbrev Orc := FuncId → List AV → St → Option (AV × St)

/-- A nil slice is handed on as an immutable empty one. -/
def weak : AV → AV
  | .nils => .lit []
  | v => v

def weaks : List AV → List AV
  | [] => []
  | v :: vs => weak v :: weaks vs

def ownK (st : St) (r : AV × St) : Option (AV × St) := if r.2.A.length = st.A.length then some (r.1, ⟨r.2.A, st.ro, st.L⟩) else none

/-- The store that a scoped call begins with. -/
def St.push (st : St) : St := ⟨st.A ++ [(st.ro, st.L)], false, []⟩

def pop : List (Bool × List Blk) → Option (List (Bool × List Blk) × (Bool × List Blk))
  | [] => none
  | [r] => some ([], r)
  | a :: b :: r => (pop (b :: r)).map fun p => (a :: p.1, p.2)

def popK (v : AV) (p : List (Bool × List Blk) × (Bool × List Blk)) : Option (AV × St) := some (v, ⟨p.1, p.2.1, p.2.2⟩)
def leaveK (q : AV × St) : Option (AV × St) := (pop q.2.A).bind (popK q.1)
def sealK (st : St) (v : AV) : Option (AV × St) := (sealV deep st.A.length st v).bind leaveK
def scopeK (r : AV × St) : Option (AV × St) := sealK r.2 r.1

def adoptB (s : St) (b n w : Nat) (es : List AV) (p : List (Bool × List Blk) × (Bool × List Blk)) : Option (AV × St) :=
  if p.2.1 = true ∨ es.length < b + n ∨ ((es.drop b).take n).all (imm 6) = false then none
  else some (.ref p.1.length p.2.2.length 0 0 n, ⟨p.1, p.2.1, p.2.2 ++ [.arr w 0 ((es.drop b).take n)]⟩)

def adoptR (s : St) (ver b n : Nat) : Option Blk → Option (AV × St)
  | some (.arr w ver' es) => if ver = ver' then (pop s.A).bind (adoptB s b n w es) else none
  | _ => none

/-- The slice that a region of its own made becomes the caller's. -/
def adopt1 (s : St) : AV → Option (AV × St)
  | .ref lv ix ver b n => if lv = s.A.length then adoptR s ver b n s.L[ix]? else none
  | .nils => leaveK (.nils, s)
  | _ => none

def tup1 (vs : List AV) (r : AV × St) : Option (AV × St) := some (.tup (r.1 :: vs), r.2)

def adoptK (r : AV × St) : Option (AV × St) :=
  match r.1 with
  | .tup (v :: vs) => if vs.all (imm 6) = true then (adopt1 r.2 v).bind (tup1 vs) else none
  | v => adopt1 r.2 v

def callM (O : Orc) (m : CM) (f : FuncId) (args : List AV) (st : St) : Option (AV × St) :=
  match m with
  | .norm => O f args st
  | .own => (O f args { st with ro := true }).bind (ownK st)
  | .pure => (O f args st.allRo).bind (pureK st)
  | .inner => (O f args st.push).bind scopeK
  | .pin => ((O f args st.allRo.push).bind scopeK).bind (pureK st)
  | .move => (O f args st.push).bind adoptK

def callV (O : Orc) (m : CM) (args : List AV) (st : St) : AV → Option (AV × St)
  | .func (.func g) first cap => callM O m g (weaks (first ++ args ++ cap)) st
  | _ => none

def evalPI (O : Orc) (e : Env) (st : St) : PO → Option (AV × St)
  | .call m f args => callV O m (gets e args) st (f.get e)
  | .w k o => evalW e st o k
  | o => evalPO e st o

/-- The older regions out of sight. -/
def St.mask (st : St) : St := { A := st.A.map fun _ => (true, []), ro := true, L := st.L }

def evalI (O : Orc) (e : Env) (st : St) (i : PI) : Option (AV × St) :=
  if i.own = true then (if i.op.reads = true then (evalPO e st.mask i.op).bind (pureK st) else none) else evalPI O e st i.op

def setD (e : Env) : Option Nat → AV → Env
  | some d, v => (d, v) :: e
  | none, _ => e

def wantedB (want : Bool) : AV → Option Bool
  | .bool b => some (b == want)
  | .undef => some false
  | _ => none

def wantedV (e : Env) : Option (Nat × Bool) → Option Bool
  | none => some true
  | some (t, want) => wantedB want (look e t)

abbrev RunI := Env → St → Option (Env × St)

def runK (K : RunI) (e : Env) (d : Option Nat) (r : AV × St) : Option (Env × St) := K (setD e d r.1) r.2

def runW (O : Orc) (i : PI) (K : RunI) (e : Env) (st : St) : Bool → Option (Env × St)
  | true => (evalI O e st i).bind (runK K e i.dst)
  | false => K (setD e i.dst .undef) st

def runIs (O : Orc) : List PI → RunI
  | [] => fun e st => some (e, st)
  | i :: is => fun e st => (wantedV e i.guard).bind (runW O i (runIs O is) e st)

def keepEnv : List Nat → Env → Env
  | [], _ => []
  | k :: ks, e => (k, look e k) :: keepEnv ks e

abbrev Run := Env → St → Option (Ex × Env × St)

def seqK (F : Run) : Ex × Env × St → Option (Ex × Env × St)
  | (.norm, e, st) => F e st
  | (.ex id, e, st) => some (.ex id, e, st)
  | (.ret, e, st) => some (.ret, e, st)

def blockK (id : Nat) : Ex × Env × St → Option (Ex × Env × St)
  | (.norm, e, st) => some (.norm, e, st)
  | (.ex id', e, st) => if id' = id then some (.norm, e, st) else some (.ex id', e, st)
  | (.ret, e, st) => some (.ret, e, st)

def iter (f : Run) : Nat → Run
  | 0 => fun _ _ => none
  | n + 1 => fun e st => (f e st).bind (seqK (iter f n))

def iteV (F G : Run) (e : Env) (st : St) : AV → Option (Ex × Env × St)
  | .bool true => F e st
  | .bool false => G e st
  | _ => none

def regK (keep : List Nat) (r : Env × St) : Option (Ex × Env × St) := some (.norm, keepEnv keep r.1, r.2)

/-- Holes are laid. -/
def padH (js : List Nat) (st : St) : Option St := if st.ro = true then none else some { st with L := st.L ++ js.map Blk.hole }

def exec (O : Orc) (I : Run → Run) : PC → Run
  | .skip => fun e st => some (.norm, e, st)
  | .ret => fun e st => some (.ret, e, st)
  | .exit id => fun e st => some (.ex id, e, st)
  | .seq a b => fun e st => (exec O I a e st).bind (seqK (exec O I b))
  | .ite c a b => fun e st => iteV (exec O I a) (exec O I b) e st (c.get e)
  | .block id b => fun e st => (exec O I b e st).bind (blockK id)
  | .loop b => fun e st => I (exec O I b) e st
  | .reg keep is => fun e st => (runIs O is e st).bind (regK keep)
  | .regH js keep is => fun e st => (padH js st).bind fun st => (runIs O is e st).bind (regK keep)

def resV (st : St) (e : Env) : RV → Option AV
  | .s t => some (look e t)
  | .c t agg n => loadP st agg n (look e t)

def resL (st : St) (e : Env) : List RV → Option (List AV)
  | [] => some []
  | r :: rs => (resV st e r).bind fun v => (resL st e rs).map (v :: ·)

def tupOf : List AV → AV
  | [v] => v
  | vs => .tup vs

def result (st : St) (e : Env) (rs : List RV) : Option AV := (resL st e rs).map tupOf

def initEnv (n : Nat) : List AV → Env
  | [] => []
  | v :: vs => (n, v) :: initEnv (n + 1) vs

/-- A function: its body; or what is known of it. -/
inductive Ent where
  | pf (p : PF)
  | base (o : List AV → St → Option (AV × St))

abbrev Tab := FuncId → Option Ent

/-- The end of a body: what it hands back. -/
def endK (keep : Bool) (rs : List RV) : Ex × Env × St → Option (AV × St)
  | (.ex _, _, _) => none
  | (.norm, e, st) => (result st e rs).bind (if keep = true then ret1 st else sealK st)
  | (.ret, e, st) => (result st e rs).bind (if keep = true then ret1 st else sealK st)

def callBody (O : Orc) (I : Run → Run) (pf : PF) (args : List AV) (st : St) : Option (AV × St) :=
  (exec O I pf.body (initEnv 0 args) (if pf.keep = true then st else st.push)).bind (endK pf.keep pf.res)

def entK (O : Orc) (I : Run → Run) (args : List AV) (st : St) : Ent → Option (AV × St)
  | .pf pf => callBody O I pf args st
  | .base o => o args st

def callN (T : Tab) : Nat → Orc
  | 0, _, _, _ => none
  | n + 1, f, args, st => (T f).bind (entK (callN T n) (fun F => iter F n) args st)

end Go.QAbs
