/- A part of the proof: A, A2, B, C, D, E, F, G, H, I, J, K, L, M, N, O. No condition. -/
import Derived.Calls
import Derived.Below
import Derived.Laws.IdiomCopy
import Derived.IntWalk
import Derived.Laws.Strings
set_option linter.unusedVariables false
set_option linter.unusedSimpArgs false
namespace Go.QAbs
abbrev B8:=List UInt8
theorem Y.{u} {α:Sort u} {a:α}:a=a:=rfl
theorem jE{α : Type _}{l : List α}{i : Nat}(h : i < l.length): l[i]? = some l[i] := List.getElem?_eq_getElem h
theorem jP{α : Type _}{β : Type _}(a : α)(b : β)(c : α)(d : β): ((a, b) = (c, d)) = (a = c ∧ b = d) := Prod.mk.injEq a b c d
theorem jB : (false = true) = False := Bool.false_eq_true
theorem jS{α : Type _}{l : List α}{i j : Nat}(h : i ≠ j){a : α}: (l.set i a)[j]? = l[j]? := List.getElem?_set_ne h
theorem jL{α : Type _}{l m : List α}{i : Nat}(h : i < l.length): (l ++ m)[i]? = l[i]? := List.getElem?_append_left h
theorem jM{α : Type _}{l : List α}{i : Nat}{a : α}(h : l[i]? = some a): a ∈ l := List.mem_of_getElem? h
theorem jC{α : Type _}{β : Type _}{f : α → β}{a : α}{l : List α}: List.map f (a :: l) = f a :: List.map f l := rfl
theorem jG{α : Type _}{β : Type _}{f : α → β}{l : List α}{i : Nat}: (List.map f l)[i]? = Option.map f l[i]? := List.getElem?_map
inductive AV where
 | any
 | undef
 | bool (b:Bool)
 | int (k:IntKind) (n:Int)
 | str (s:B8)
 | nilptr
 | ptr (lv ix ver i o:Nat)
 | lptr (e:AV) (o:Nat)
 | nils
 | lit (es:List AV)
 | ref (lv ix ver s n:Nat)
 | nilmap
 | map (lv ix:Nat)
 | func (fn:Fn) (first captured:List AV)
 | nilfunc
 | iface (t:TypeId) (v:AV)
 | niliface
 | agg (cs:List AV)
 | tup (vs:List AV)
instance:Inhabited AV:=⟨.any⟩
def AV.cells:AV->List AV
 | .agg cs=>cs
 | v=>[v]
def AV.one:AV->Bool
 | .agg _=>false
 | .tup _=>false
 | .undef=>false
 | .any=>false
 | _=>true
def AV.wide:AV->Option Nat
 | .agg cs=>if cs.all AV.one=true then some cs.length else none
 | .tup _=>none
 | .undef=>none
 | .any=>none
 | _=>some 1
inductive Blk where
 | arr (w ver:Nat) (es:List AV)
 | map (es:List (AV × AV))
 | dead
 | hole (j:Nat)
instance:Inhabited Blk:=⟨.dead⟩
structure St where
 A:List (Bool × List Blk)
 ro:Bool
 L:List Blk
abbrev LV:=List AV
abbrev OS:=Option (AV × St)
def vis:Option Blk->Option Blk
 | some (.hole _)=>none
 | b=>b
def St.get(st:St)(lv ix:Nat):Option Blk :=
 if lv=st.A.length then vis st.L[ix]? else (st.A[lv]?).bind fun r=>vis r.2[ix]?
def ZIR(st:St)(lv ix:Nat)(b:Blk):Option (Bool × List Blk)->Option St
 | some (false,r)=>if ix<r.length then some { st with A:=st.A.set lv (false,r.set ix b) } else none
 | _=>none
def St.put(st:St)(lv ix:Nat)(b:Blk):Option St :=
 if lv=st.A.length then
  if st.ro=true then none else if ix<st.L.length then some { st with L:=st.L.set ix b } else none
 else ZIR st lv ix b st.A[lv]?
def St.new(st:St)(b:Blk):Option (Nat × St) :=
 if st.ro=true then none else some (st.L.length,{ st with L:=st.L++[b] })
def St.allRo(st:St):St:={ A:=st.A.map fun r=>(true,r.2),ro:=true,L:=st.L }
def ZBv(v:AV)(q:LV × St):Option (LV × St):=some (v::q.1,q.2)
def mapSt(f:St->AV->OS):St->LV->Option (LV × St)
 | st,[]=>some ([],st)
 | st,v::vs=>(f st v).bind fun r=>(mapSt f r.2 vs).bind (ZBv r.1)
def ZFG(ver s n:Nat):Option Blk->Option LV
 | some (.arr _ ver' es)=>if ver=ver'/\s+n<=es.length then some ((es.drop s).take n) else none
 | _=>none
def Zn3(ver i:Nat):Option Blk->Option AV
 | some (.arr _ ver' es)=>if ver=ver' then es[i]? else none
 | _=>none
def Zr9(o:Nat)(q:AV × St):OS:=some (.lptr q.1 o,q.2)
def ZjK(q:LV × St):OS:=some (.lit q.1,q.2)
def Zf3(q:LV × St):OS:=some (.agg q.1,q.2)
def ZcE(q:LV × St):OS:=some (.tup q.1,q.2)
def Zn4(t:TypeId)(q:AV × St):OS:=some (.iface t q.1,q.2)
def Xo:AV->Bool
 | .nils=>true
 | _=>false
def keepN(f:St->AV->OS)(st:St)(v:AV):OS:=if Xo v=true then some (v,st) else f st v
def Zqm(b:Nat):Fn->Bool
 | .yield lv=>decide (lv<b)
 | _=>true
def Zb:Nat->Nat->St->AV->OS
 | 0,_,_,_=>none
 | n+1,b,st,v =>
  match v with
  | .ptr lv ix ver i o =>
   if lv<b then some (.ptr lv ix ver i o,st)
   else if lv=st.A.length/\st.ro=false then
    (Zn3 ver i st.L[ix]?).bind fun e=>(Zb n 0 { st with L:=st.L.set ix .dead } e).bind (Zr9 o)
   else none
  | .map lv ix=>if lv<b then some (.map lv ix,st) else none
  | .ref lv ix ver s m =>
   if lv<b then some (.ref lv ix ver s m,st)
   else if lv=st.A.length/\st.ro=false then
    (ZFG ver s m st.L[ix]?).bind fun es=>(mapSt (Zb n 0) { st with L:=st.L.set ix .dead } es).bind ZjK
   else none
  | .nils=>some (.lit [],st)
  | .agg cs=>(mapSt (keepN (Zb n b)) st cs).bind Zf3
  | .tup cs=>(mapSt (Zb n b) st cs).bind ZcE
  | .func fn f c=>if Zqm b fn=true then (mapSt (Zb n b) st f).bind fun r=>(mapSt (Zb n b) r.2 c).bind fun q=>some (.func fn r.1 q.1,q.2) else none
  | .iface t x=>(Zb n b st x).bind (Zn4 t)
  | v=>some (v,st)
def QK:Nat:=6
inductive Opd where
 | s (t:Nat)
 | v (a:AV)
abbrev Env:=List (Nat × AV)
def look:Env->Nat->AV
 | [],_=>.any
 | (k,v)::e,t=>if k=t then v else look e t
def Opd.get(e:Env):Opd->AV
 | .s t=>look e t
 | .v a=>a
def yB:Nat:=1000000
def Zn5:Fn->Bool
 | .func g=>decide (g<yB)
 | .yield _=>false
 | _=>true
inductive CM where
 | norm|own|pure|inner|pin|move
 | give (n:Nat)
inductive WK where
 | blind
 | imm
 | app0
 | hide (az:List Opd)
 | plain (b:Opd)
 | here (j:Nat)
 | grow (b:Opd)
 | only (b:Opd)
 | off (b:Opd)
 | app0n (n:Nat)
 | first(b:Opd) (n:Nat)
inductive PO where
 | mv (x:Opd)
 | pick (c a b:Opd)
 | onil (w:Nat)
 | box (x:Opd)
 | boxnil (w:Nat)
 | build (z:LV) (parts:List (Nat × Nat × Opd))
 | bslice (own:Bool) (w:Nat) (z:LV) (parts:List (Nat × Opd))
 | ld (agg:Bool) (n:Nat) (a:Opd)
 | st (n:Nat) (a x:Opd)
 | nilck (x:Opd)
 | bin (op:BinOp) (x y:Opd)
 | eqs (neg:Bool) (kind:Nat) (ks:List (Nat × Nat)) (x y:Opd)
 | un (op:UnOp) (x:Opd)
 | cint (k:IntKind) (x:Opd)
 | cstr (x:Opd)
 | b2s (x:Opd)
 | mkf (fn:Fn) (f c:List Opd)
 | mkmap
 | mkslice (w bytes:Nat) (z:AV) (l c:Opd)
 | slcS (x:Opd) (lo hi:Option Opd)
 | slc (w:Nat) (x:Opd) (lo hi:Option Opd)
 | fadr (off:Nat) (x:Opd)
 | fld (agg:Bool) (off n:Nat) (x:Opd)
 | ixS (w:Nat) (x i:Opd)
 | ixA (len w:Nat) (x i:Opd)
 | ixStr (x i:Opd)
 | ixArr (agg:Bool) (len w:Nat) (x i:Opd)
 | look (kk:Nat) (z:AV) (ok:Bool) (x i:Opd)
 | mupd (kk:Nat) (x k v:Opd)
 | mdel (kk:Nat) (x k:Opd)
 | len (k:Nat) (x:Opd)
 | app (w bytes:Nat) (s x:Opd)
 | cpy (w:Nat) (d x:Opd)
 | mnx (mx:Bool) (x y:Opd)
 | ext (x:Opd) (i:Nat)
 | call (m:CM) (f:Opd) (args:List Opd)
 | w (k:WK) (o:PO)
structure PI where
 dst:Option Nat
 guard:Option (Nat × Bool)
 own:Bool
 op:PO
inductive PC where
 | skip
 | ret
 | exit (id:Nat)
 | seq (a b:PC)
 | ite (c:Opd) (a b:PC)
 | block (id:Nat) (b:PC)
 | loop (b:PC)
 | reg (keep:List Nat) (is:List PI)
 | regH (js keep:List Nat) (is:List PI)
inductive RV where
 | s (t:Nat)
 | c (t:Nat) (agg:Bool) (n:Nat)
structure PF where
 keep:Bool
 body:PC
 res:List RV
def ZcF(cs:LV)(off:Nat)(vs:LV):LV:=cs.take off++vs++cs.drop (off+vs.length)
def AV.isAny:AV->Bool
 | .any=>true
 | _=>false
def Jn(e:AV)(agg:Bool)(o n:Nat):Option AV :=
 if e.isAny=true then none
 else if agg=true then (if o+n<=e.cells.length then some (.agg ((e.cells.drop o).take n)) else none)
 else e.cells[o]?
def Q7(w:Nat)(e:AV)(o n:Nat)(x:AV):Option AV :=
 if x.wide=some n then
  if o=0/\n=w then some x
  else if e.isAny=true then none
  else if e.cells.length=w/\o+n<=w then some (.agg (ZcF e.cells o x.cells)) else none
 else none
def fillV:LV->List (Nat × Nat × AV)->Option LV
 | cs,[]=>some cs
 | cs,(off,size,v)::rest =>
  if v.wide=some size/\off+size<=cs.length then fillV (ZcF cs off v.cells) rest else none
def fillE(w:Nat):LV->List (Nat × AV)->Option LV
 | es,[]=>some es
 | es,(i,v)::rest =>
  if v.wide=some w/\i<es.length then fillE w (es.set i v) rest else none
def QL(l:B8):LV:=l.map fun b=>.int .u8 b.toNat
def elems(st:St):AV->Option LV
 | .nils=>some []
 | .lit es=>some es
 | .str l=>some (QL l)
 | .ref lv ix ver s n=>ZFG ver s n (st.get lv ix)
 | _=>none
def ZcG:Option Blk->Option Nat
 | some (.map es)=>some es.length
 | _=>none
def lenOf(st:St):Nat->AV->Option Nat
 | 1,.nils=>some 0
 | 1,.lit es=>some es.length
 | 0,.str l=>some l.length
 | 1,.ref _ _ _ _ n=>some n
 | 2,.nilmap=>some 0
 | 2,.map lv ix=>ZcG (st.get lv ix)
 | _,_=>none
def Zli:AV->AV->Option Bool
 | .int k a,.int k' b=>if k=k' then some (a == b) else none
 | .str a,.str b=>some (a == b)
 | .bool a,.bool b=>some (a == b)
 | _,_=>none
def ZBV(k:AV):List (AV × AV)->Option (Option AV)
 | []=>some none
 | e::es=>(Zli k e.1).bind fun b=>if b=true then some (some e.2) else ZBV k es
def ZOA(k v:AV):List (AV × AV)->Option (List (AV × AV))
 | []=>some [(k,v)]
 | e::es=>(Zli k e.1).bind fun b=>if b=true then some ((k,v)::es) else (ZOA k v es).map (e::·)
def ZjL(k:AV):List (AV × AV)->Option (List (AV × AV))
 | []=>some []
 | e::es=>(Zli k e.1).bind fun b=>if b=true then some es else (ZjL k es).map (e::·)
def XK:Nat->AV->Bool
 | 0,.int _ _=>true
 | 1,.str _=>true
 | 2,.bool _=>true
 | _,_=>false
def Zlj:AV->Bool
 | .int _ _=>true
 | .str _=>true
 | .bool _=>true
 | _=>false
def ZIS(op:BinOp)(k:IntKind)(x y:Int):Option AV :=
 match op with
 | .add=>some (.int k (k.wrap (x+y)))
 | .sub=>some (.int k (k.wrap (x-y)))
 | .mul=>some (.int k (k.wrap (x*y)))
 | .quo=>if y=0 then none else some (.int k (k.wrap (x.tdiv y)))
 | .rem=>if y=0 then none else some (.int k (x.tmod y))
 | .and=>some (.int k (k.wrap (BitVec.ofInt k.bits x &&& BitVec.ofInt k.bits y).toNat))
 | .or=>some (.int k (k.wrap (BitVec.ofInt k.bits x ||| BitVec.ofInt k.bits y).toNat))
 | .xor=>some (.int k (k.wrap (BitVec.ofInt k.bits x ^^^ BitVec.ofInt k.bits y).toNat))
 | .eql=>some (.bool (decide (x=y)))
 | .neq=>some (.bool (decide (x≠y)))
 | .lss=>some (.bool (decide (x<y)))
 | .leq=>some (.bool (decide (x<=y)))
 | .gtr=>some (.bool (decide (y<x)))
 | .geq=>some (.bool (decide (y<=x)))
 | _=>none
def ZW2(op:BinOp)(x y:B8):Option AV :=
 match op with
 | .add=>if x.length+y.length<4611686018427387904 then some (.str (x++y)) else none
 | .eql=>some (.bool (decide (x=y)))
 | .neq=>some (.bool (decide (x≠y)))
 | .lss=>some (.bool (Op.bytesLess x y))
 | .leq=>some (.bool (Op.bytesLess x y || decide (x=y)))
 | .gtr=>some (.bool (!(Op.bytesLess x y || decide (x=y))))
 | .geq=>some (.bool (!(Op.bytesLess x y)))
 | _=>none
def ZsA(op:BinOp)(k:IntKind)(x y:Int):Option AV :=
 if y<0 then none else
  match op with
  | .shl=>some (.int k (k.wrap (x*2 ^ (min y.toNat k.bits))))
  | .shr=>some (.int k (x.fdiv (2 ^ (min y.toNat k.bits))))
  | _=>none
def ZjM:BinOp->Bool
 | .shl=>true
 | .shr=>true
 | _=>false
def ZIT(op:BinOp):AV->AV->Option AV
 | .int k a,.int k' b=>if ZjM op=true then ZsA op k a b else if k=k' then ZIS op k a b else none
 | .str a,.str b=>ZW2 op a b
 | _,_=>none
def Zn6:Nat->AV->AV->Option Bool
 | 0,.int k a,.int k' b=>if k=k' then some (decide (a=b)) else none
 | 1,.str a,.str b=>some (decide (a=b))
 | 2,.bool a,.bool b=>some (a == b)
 | _,_,_=>none
def Jo(xs ys:LV):List (Nat × Nat)->Option Bool
 | []=>some true
 | p::ps=>(xs[p.1]?).bind fun x=>(ys[p.1]?).bind fun y=>(Zn6 p.2 x y).bind fun b=>if b=true then Jo xs ys ps else some false
def ZsB:Nat->AV->AV->Option Bool
 | 3,.nilptr,.nilptr=>some true
 | 3,.nilptr,.ptr ..=>some false
 | 3,.nilptr,.lptr ..=>some false
 | 3,.ptr ..,.nilptr=>some false
 | 3,.lptr ..,.nilptr=>some false
 | 4,.nilmap,.nilmap=>some true
 | 4,.nilmap,.map ..=>some false
 | 4,.map ..,.nilmap=>some false
 | 5,.nilfunc,.nilfunc=>some true
 | 5,.nilfunc,.func ..=>some false
 | 5,.func ..,.nilfunc=>some false
 | 6,.bool a,.bool b=>some (a == b)
 | _,_,_=>none
def eqV(ks:List (Nat × Nat)):Nat->AV->AV->Option Bool
 | 0,.agg xs,.agg ys=>Jo xs ys ks
 | k+1,x,y=>ZsB (k+1) x y
 | _,_,_=>none
def unV:UnOp->AV->Option AV
 | .neg,.int k n=>some (.int k (k.wrap (0-n)))
 | .not,.bool b=>some (.bool (!b))
 | _,_=>none
def Jy(y d:Nat):Option AV->Option Nat
 | none=>some d
 | some (.int _ i)=>if 0<=i/\i<=y then some i.toNat else none
 | some _=>none
def ZGo(e:Env):Option Opd->Option AV
 | none=>none
 | some o=>some (o.get e)
def byteOf:AV->Option UInt8
 | .int .u8 n=>some (UInt8.ofNat n.toNat)
 | _=>none
def allBytes:LV->Option B8
 | []=>some []
 | v::vs=>(byteOf v).bind fun b=>(allBytes vs).map (b::·)
def ZGp(agg:Bool)(n ver i o:Nat):Option Blk->Option AV
 | some (.arr _ ver' es)=>if ver=ver' then (es[i]?).bind fun e=>Jn e agg o n else none
 | _=>none
def loadP(st:St)(agg:Bool)(n:Nat):AV->Option AV
 | .ptr lv ix ver i o=>ZGp agg n ver i o (st.get lv ix)
 | .lptr e o=>Jn e agg o n
 | _=>none
def Xp(st:St)(n lv ix ver i o:Nat)(x:AV):Option Blk->Option St
 | some (.arr w ver' es) =>
  if ver=ver' then (es[i]?).bind fun e=>(Q7 w e o n x).bind fun e'=>st.put lv ix (.arr w ver (es.set i e')) else none
 | _=>none
def ZGM(n lv ix ver i o:Nat)(r:AV × St):Option St:=Xp r.2 n lv ix ver i o r.1 (r.2.get lv ix)
def ZA7(st:St)(n:Nat)(x:AV):AV->Option St
 | .ptr lv ix ver i o=>(Zb QK (lv+1) st x).bind (ZGM n lv ix ver i o)
 | _=>none
def XB(len:Nat):AV->Option Nat
 | .int _ n=>if 0<=n/\n<len then some n.toNat else none
 | _=>none
def JH(w:Nat)(es:LV):Bool:=es.all fun v=>v.wide == some w
def JO(lv n:Nat)(r:Nat × St):OS:=some (.ref lv r.1 0 0 n,r.2)
def X3(lv:Nat)(r:Nat × St):OS:=some (.ptr lv r.1 0 0 0,r.2)
def ZUv(lv:Nat)(r:Nat × St):OS:=some (.map lv r.1,r.2)
def ZRL(st:St)(w bytes lv ix ver s n:Nat)(ys:LV):Option Blk->OS
 | some (.arr w' ver' es) =>
  if ver=ver'/\w=w'/\s+n<=es.length/\n+ys.length<4294967296/\bytes<=4096 then
   (st.put lv ix (.arr w (ver+1) ((es.drop s).take n++ys))).bind fun st'=>some (.ref lv ix (ver+1) 0 (n+ys.length),st')
  else none
 | _=>none
def Zf4(w bytes lv ix ver s n:Nat)(r:LV × St):OS:=ZRL r.2 w bytes lv ix ver s n r.1 (r.2.get lv ix)
def Q4(st:St)(w bytes:Nat)(ys:LV):AV->OS
 | .nils=>if ys.length<4294967296/\bytes<=4096/\JH w ys=true then (st.new (.arr w 0 ys)).bind (JO st.A.length ys.length) else none
 | .lit es=>if ys.isEmpty=true then some (.lit es,st) else none
 | .ref lv ix ver s n=>if JH w ys=true then (mapSt (Zb QK (lv+1)) st ys).bind (Zf4 w bytes lv ix ver s n) else none
 | _=>none
def ZjN(st:St)(w lv ix ver s n:Nat)(ys:LV):Option Blk->OS
 | some (.arr w' ver' es) =>
  if ver=ver'/\w=w'/\s+n<=es.length/\ys.length<=n then
   (st.put lv ix (.arr w ver (es.take s++ys++es.drop (s+ys.length)))).bind fun st'=>some (.int .i64 ys.length,st')
  else none
 | _=>none
def Zn7(st:St)(w:Nat)(ys:LV):AV->OS
 | .ref lv ix ver s n=>if JH w ys=true then (mapSt (Zb QK (lv+1)) st ys).bind fun r=>ZjN r.2 w lv ix ver s n r.1 (r.2.get lv ix) else none
 | _=>none
def Zpp(a b:AV):AV->Option AV
 | .bool t=>some (if t=true then a else b)
 | _=>none
def ZcH:AV->Option AV
 | .ptr lv ix ver i o=>some (.ptr lv ix ver i o)
 | .lptr v o=>some (.lptr v o)
 | .func (.func f) a c=>some (.func (.func f) a c)
 | _=>none
def Zlk(k:IntKind):AV->Option AV
 | .int _ n=>some (.int k (k.wrap n))
 | _=>none
def ZsC:AV->Option AV
 | .str l=>some (.str l)
 | _=>none
def b2sV(st:St):AV->Option AV
 | .str _=>none
 | v=>(elems st v).bind fun es=>(allBytes es).bind fun l=>some (.str l)
def ZiF(st:St)(w bytes:Nat)(z:AV):AV->AV->OS
 | .int .i64 l,.int .i64 c =>
  if 0<=l/\l<=c/\c<4294967296/\bytes<=4096 then
   (st.new (.arr w 0 (List.replicate l.toNat z))).bind (JO st.A.length l.toNat)
  else none
 | _,_=>none
def Zpq(lo hi:Option AV):AV->Option AV
 | .str s=>(Jy s.length s.length hi).bind fun h=>(Jy h 0 lo).bind fun l=>some (.str ((s.drop l).take (h-l)))
 | _=>none
def wIs(w ver:Nat):Option Blk->Bool
 | some (.arr w' ver' _)=>ver == ver' && w == w'
 | _=>false
def slcV(st:St)(w:Nat)(lo hi:Option AV):AV->Option AV
 | .lit es=>(Jy es.length es.length hi).bind fun h=>(Jy h 0 lo).bind fun l =>
  if JH w es=true then some (.lit ((es.drop l).take (h-l))) else none
 | .nils=>(Jy 0 0 hi).bind fun h=>(Jy h 0 lo).bind fun _=>some .nils
 | .ref lv ix ver s n=>(Jy n n hi).bind fun h=>(Jy h 0 lo).bind fun l =>
  if wIs w ver (st.get lv ix)=true then some (.ref lv ix ver (s+l) (h-l)) else none
 | _=>none
def Zll(off:Nat):AV->Option AV
 | .ptr lv ix ver i o=>some (.ptr lv ix ver i (o+off))
 | .lptr v o=>some (.lptr v (o+off))
 | _=>none
def Zud(agg:Bool)(off n:Nat):AV->Option AV
 | .agg cs=>Jn (.agg cs) agg off n
 | _=>none
def ixSV(st:St)(w:Nat)(i:AV):AV->Option AV
 | .lit es=>(XB es.length i).bind fun n=>(es[n]?).bind fun v=>if v.wide=some w then some (.lptr v 0) else none
 | .ref lv ix ver s m=>(XB m i).bind fun n=>if wIs w ver (st.get lv ix)=true then some (.ptr lv ix ver (s+n) 0) else none
 | _=>none
def Zue(len w:Nat)(i:AV):AV->Option AV
 | .ptr lv ix ver j o=>(XB len i).bind fun n=>some (.ptr lv ix ver j (o+n*w))
 | .lptr v o=>(XB len i).bind fun n=>some (.lptr v (o+n*w))
 | _=>none
def ZjO(i:AV):AV->Option AV
 | .str s=>(XB s.length i).bind fun n=>(s[n]?).bind fun b=>some (.int .u8 b.toNat)
 | _=>none
def ZjP(agg:Bool)(len w:Nat)(i:AV):AV->Option AV
 | .agg cs=>(XB len i).bind fun n=>Jn (.agg cs) agg (n*w) w
 | _=>none
def ZZZ:Option Blk->Option (List (AV × AV))
 | some (.map es)=>some es
 | _=>none
def Zlm(st:St):AV->Option (List (AV × AV))
 | .nilmap=>some []
 | .map lv ix=>ZZZ (st.get lv ix)
 | _=>none
def ZiG(z:AV)(ok:Bool):Option AV->AV
 | some v=>if ok=true then .tup [v,.bool true] else v
 | none=>if ok=true then .tup [z,.bool false] else z
def lookV(st:St)(kk:Nat)(z:AV)(ok:Bool)(k m:AV):Option AV :=
 (Zlm st m).bind fun es=>if XK kk k=true then (ZBV k es).map (ZiG z ok) else none
def ZcI(lv ix:Nat)(k:AV)(r:AV × St):Option St :=
 (ZZZ (r.2.get lv ix)).bind fun es=>(ZOA k r.1 es).bind fun es'=>r.2.put lv ix (.map es')
def ZY4(st:St)(kk:Nat)(k v:AV):AV->Option St
 | .map lv ix=>if XK kk k=true then (Zb QK (lv+1) st v).bind (ZcI lv ix k) else none
 | _=>none
def ZcJ(st:St)(kk:Nat)(k:AV):AV->Option St
 | .map lv ix=>if XK kk k=true then (ZZZ (st.get lv ix)).bind fun es=>(ZjL k es).bind fun es'=>st.put lv ix (.map es') else none
 | _=>none
def Zuf(mx:Bool):AV->AV->Option AV
 | .int k a,.int k' b=>if k=k' then some (.int k (if mx=true then (if a<b then b else a) else (if b<a then b else a))) else none
 | _,_=>none
def Zug(i:Nat):AV->Option AV
 | .tup vs=>vs[i]?
 | _=>none
def ZQ1(lv:Nat)(r:Nat × St):OS:=(r.2.new (.arr 1 0 [.ref lv r.1 0 0 0])).bind (X3 lv)
def Xq(e:Env):List (Nat × Nat × Opd)->List (Nat × Nat × AV)
 | []=>[]
 | p::ps=>(p.1,p.2.1,p.2.2.get e)::Xq e ps
def JU(e:Env):List (Nat × Opd)->List (Nat × AV)
 | []=>[]
 | p::ps=>(p.1,p.2.get e)::JU e ps
def Xu(e:Env):List Opd->LV
 | []=>[]
 | o::os=>o.get e::Xu e os
def Zf5(own:Bool)(w:Nat)(st:St)(es:LV):OS :=
 if own=true then (st.new (.arr w 0 es)).bind (JO st.A.length es.length)
 else if es.isEmpty=true then some (.nils,st)
 else (mapSt (Zb QK 0) st es).bind ZjK
def Qe(st:St)(v:AV):OS:=some (v,st)
def ZCI(st:St):OS:=some (.undef,st)
def ZsD(st:St):OS:=some (.tup [],st)
def evalPO(e:Env)(st:St):PO->OS
 | .mv x=>some (x.get e,st)
 | .pick c a b=>(Zpp (a.get e) (b.get e) (c.get e)).bind (Qe st)
 | .onil w=>(st.new (.arr w 0 [])).bind (JO st.A.length 0)
 | .box x=>(x.get e).wide.bind fun w=>(st.new (.arr w 0 [x.get e])).bind (X3 st.A.length)
 | .boxnil w=>(st.new (.arr w 0 [])).bind (ZQ1 st.A.length)
 | .build z parts=>(fillV z (Xq e parts)).bind fun cs=>some (.agg cs,st)
 | .bslice own w z parts=>(fillE w z (JU e parts)).bind (Zf5 own w st)
 | .ld agg n a=>(loadP st agg n (a.get e)).bind (Qe st)
 | .st n a x=>(ZA7 st n (x.get e) (a.get e)).bind ZCI
 | .nilck x=>(ZcH (x.get e)).bind (Qe st)
 | .bin op x y=>(ZIT op (x.get e) (y.get e)).bind (Qe st)
 | .eqs neg kind ks x y=>(eqV ks kind (x.get e) (y.get e)).bind fun b=>some (.bool (if neg=true then !b else b),st)
 | .un op x=>(unV op (x.get e)).bind (Qe st)
 | .cint k x=>(Zlk k (x.get e)).bind (Qe st)
 | .cstr x=>(ZsC (x.get e)).bind (Qe st)
 | .b2s x=>(b2sV st (x.get e)).bind (Qe st)
 | .mkf fn f c=>some (.func fn (Xu e f) (Xu e c),st)
 | .mkmap=>(st.new (.map [])).bind (ZUv st.A.length)
 | .mkslice w bytes z l c=>ZiF st w bytes z (l.get e) (c.get e)
 | .slcS x lo hi=>(Zpq (ZGo e lo) (ZGo e hi) (x.get e)).bind (Qe st)
 | .slc w x lo hi=>(slcV st w (ZGo e lo) (ZGo e hi) (x.get e)).bind (Qe st)
 | .fadr off x=>(Zll off (x.get e)).bind (Qe st)
 | .fld agg off n x=>(Zud agg off n (x.get e)).bind (Qe st)
 | .ixS w x i=>(ixSV st w (i.get e) (x.get e)).bind (Qe st)
 | .ixA len w x i=>(Zue len w (i.get e) (x.get e)).bind (Qe st)
 | .ixStr x i=>(ZjO (i.get e) (x.get e)).bind (Qe st)
 | .ixArr agg len w x i=>(ZjP agg len w (i.get e) (x.get e)).bind (Qe st)
 | .look kk z ok x i=>(lookV st kk z ok (i.get e) (x.get e)).bind (Qe st)
 | .mupd kk x k v=>(ZY4 st kk (k.get e) (v.get e) (x.get e)).bind ZCI
 | .mdel kk x k=>(ZcJ st kk (k.get e) (x.get e)).bind ZsD
 | .len k x=>(lenOf st k (x.get e)).bind fun n=>some (.int .i64 n,st)
 | .app w bytes s x=>(elems st (x.get e)).bind fun ys=>Q4 st w bytes ys (s.get e)
 | .cpy w d x=>(elems st (x.get e)).bind fun ys=>Zn7 st w ys (d.get e)
 | .mnx mx x y=>(Zuf mx (x.get e) (y.get e)).bind (Qe st)
 | .ext x i=>(Zug i (x.get e)).bind (Qe st)
 | .call ..=>none
 | .w ..=>none
def imm:Nat->AV->Bool
 | 0,_=>false
 | n+1,.agg cs=>cs.all fun c=>Xo c || imm n c
 | n+1,.tup cs=>cs.all (imm n)
 | _+1,.ptr ..=>false
 | _+1,.ref ..=>false
 | _+1,.map ..=>false
 | _+1,.nils=>false
 | _+1,.func ..=>false
 | _+1,.iface ..=>false
 | _+1,_=>true
def St.blank:St:=⟨[],true,[]⟩
def ZY5(P:Nat->Bool):Nat->List Blk->List Blk
 | _,[]=>[]
 | i,b::bs=>(if P i=true then .hole 0 else b)::ZY5 P (i+1) bs
def ZY6(P:Nat->Nat->Bool):Nat->List (Bool × List Blk)->List (Bool × List Blk)
 | _,[]=>[]
 | i,r::rs=>(r.1,ZY5 (P i) 0 r.2)::ZY6 P (i+1) rs
def St.hide(P:Nat->Nat->Bool)(st:St):St:=⟨ZY6 P 0 st.A,st.ro,ZY5 (P st.A.length) 0 st.L⟩
def YQ(lv ix:Nat):AV->Bool
 | .ptr lv' ix' _ _ _=>lv == lv' && ix == ix'
 | .ref lv' ix' _ _ _=>lv == lv' && ix == ix'
 | _=>false
def ZA0:Nat->Nat->AV->Bool
 | 0,_,_=>false
 | _+1,b,.ptr lv ..=>decide (lv<b)
 | _+1,b,.map lv _=>decide (lv<b)
 | _+1,b,.ref lv ..=>decide (lv<b)
 | _+1,_,.nils=>false
 | n+1,b,.agg cs=>cs.all fun c=>Xo c || ZA0 n b c
 | n+1,b,.tup cs=>cs.all (ZA0 n b)
 | n+1,b,.func fn f c=>Zqm b fn && (f.all (ZA0 n b) && c.all (ZA0 n b))
 | n+1,b,.iface _ v=>ZA0 n b v
 | _+1,_,_=>true
def ZsE:AV->Option LV->Bool
 | .nils,_=>true
 | .ref lv ..,some ys=>ys.all (ZA0 6 (lv+1))
 | _,_=>false
def ZAc(vs:LV)(lv ix:Nat):Bool:=vs.any (YQ lv ix)
def ZIU:AV->AV->Bool
 | .ptr lv ix _ _ _,.ptr lv' ix' _ _ _=>lv == lv' && ix == ix'
 | _,_=>false
def findH(j:Nat):List Blk->Option Nat
 | []=>none
 | b::bs=>match findH j bs with
  | some i=>some (i+1)
  | none=>match b with
   | .hole k=>if k=j then some 0 else none
   | _=>none
def mkslB(w bytes:Nat)(z:AV):AV->AV->Option (Blk × Nat)
 | .int .i64 l,.int .i64 c=>if 0<=l/\l<=c/\c<4294967296/\bytes<=4096 then some (.arr w 0 (List.replicate l.toNat z),l.toNat) else none
 | _,_=>none
def newOf(e:Env):PO->Option (Blk × (Nat->Nat->AV))
 | .box x=>(x.get e).wide.bind fun w=>some (.arr w 0 [x.get e],fun lv ix=>.ptr lv ix 0 0 0)
 | .mkslice w bytes z l c=>(mkslB w bytes z (l.get e) (c.get e)).bind fun r=>some (r.1,fun lv ix=>.ref lv ix 0 0 r.2)
 | _=>none
def Zln:Blk->Bool
 | .arr ..=>true
 | .map _=>true
 | _=>false
def ZcK(st:St)(b:Blk × (Nat->Nat->AV))(i:Nat):OS:=some (b.2 st.A.length i,{ st with L:=st.L.set i b.1 })
def ZcL(st:St)(j:Nat)(b:Blk × (Nat->Nat->AV)):OS :=
 if st.ro=false/\Zln b.1=true then (findH j st.L).bind (ZcK st b) else none
def ZcM(st:St)(es:LV):OS :=
 if es.all (imm 6)=true then some (if es.isEmpty=true then .nils else .lit es,st) else none
def Z8(st:St)(r:AV × St):OS:=some (r.1,st)
def Zlo(e:Env)(st:St):PO->OS
 | .bslice false w z parts=>(fillE w z (JU e parts)).bind (ZcM st)
 | _=>none
def ZLC(e:Env)(st:St):PO->OS
 | .app w bytes s x=>if Xo (s.get e)=true then evalPO e st (.app w bytes s x) else none
 | _=>none
def ZTU(e:Env)(st:St)(b:Opd):PO->OS
 | .st n a x=>if ZIU (a.get e) (b.get e)=true/\imm 6 (x.get e)=true then evalPO e st (.st n a x) else none
 | _=>none
def ZsF(p:AV):AV->Bool
 | .nils=>true
 | .ref lv ix _ _ _=>!YQ lv ix p
 | _=>false
def Zlp(e:Env)(st:St)(b:Opd):PO->OS
 | .app w bytes s x=>if ZsF (b.get e) (s.get e)=true/\ZsE (s.get e) (elems st (x.get e))=true then evalPO e st (.app w bytes s x) else none
 | _=>none
def Zlq(q:AV):AV->AV->Bool
 | .ptr lv ix _ _ _,x=>!YQ lv ix q && ZA0 6 (lv+1) x
 | _,_=>false
def Zqn(e:Env)(st:St)(b:Opd):PO->OS
 | .st n a x=>if Zlq (b.get e) (a.get e) (x.get e)=true then evalPO e st (.st n a x) else none
 | _=>none
def PO.reads:PO->Bool
 | .onil _|.box _|.boxnil _|.bslice ..|.st ..|.mkmap|.mkslice ..|.mupd ..|.mdel ..|.app ..|.cpy ..|.call ..|.w ..=>false
 | _=>true
def Zuh(n:Nat):AV->Bool
 | .ptr _ ix _ _ _=>decide (ix<n)
 | _=>false
def Zs(e:Env)(st:St)(o:PO):WK->OS
 | .blind=>if o.reads=true then (evalPO e .blank o).bind (Z8 st) else none
 | .imm=>Zlo e st o
 | .app0=>ZLC e st o
 | .hide az=>if o.reads=true then (evalPO e (st.hide (ZAc (Xu e az))) o).bind (Z8 st) else none
 | .plain b=>ZTU e st b o
 | .here j=>(newOf e o).bind (ZcL st j)
 | .grow b=>Zlp e st b o
 | .off b=>Zqn e st b o
 | .app0n n=>if n<=st.L.length then ZLC e st o else none
 | .first b n=>if o.reads=true/\Zuh n (b.get e)=true then (evalPO e (st.hide fun lv ix=>!YQ lv ix (b.get e)) o).bind (Z8 st) else none
 | .only b=>if o.reads=true then (evalPO e (st.hide fun lv ix=>!YQ lv ix (b.get e)) o).bind (Z8 st) else none
inductive Ex where
 | norm
 | ex (id:Nat)
 | ret
abbrev Orc:=FuncId->LV->St->OS
variable {v:AV}{blk:Blk}{agg:Bool}{e:Env}{f:FuncId}{args es es' vs:LV}{xs ys:List Value}{b c clock i ix j n o ver w:Nat}{ob:Obj}{O O':Orc}{st st' st2:St}
def weak:AV->AV
 | .nils=>.lit []
 | v=>v
def ZH:LV->LV
 | []=>[]
 | v::vs=>weak v::ZH vs
def Zlr(st:St)(r:AV × St):OS:=if r.2.A.length=st.A.length then some (r.1,⟨r.2.A,st.ro,st.L⟩) else none
def St.push(st:St):St:=⟨st.A++[(st.ro,st.L)],false,[]⟩
def pop:List (Bool × List Blk)->Option (List (Bool × List Blk) × (Bool × List Blk))
 | []=>none
 | [r]=>some ([],r)
 | a::b::r=>(pop (b::r)).map fun p=>(a::p.1,p.2)
def ZcN(v:AV)(p:List (Bool × List Blk) × (Bool × List Blk)):OS:=some (v,⟨p.1,p.2.1,p.2.2⟩)
def Y5(q:AV × St):OS:=(pop q.2.A).bind (ZcN q.1)
def ZLD(st:St)(v:AV):OS:=(Zb QK st.A.length st v).bind Y5
def ZOB(r:AV × St):OS:=ZLD r.2 r.1
def ZTV(s:St)(b n w:Nat)(es:LV)(p:List (Bool × List Blk) × (Bool × List Blk)):OS :=
 if p.2.1=true\/es.length<b+n\/((es.drop b).take n).all (imm 6)=false then none
 else some (.ref p.1.length p.2.2.length 0 0 n,⟨p.1,p.2.1,p.2.2++[.arr w 0 ((es.drop b).take n)]⟩)
def ZTW(s:St)(ver b n:Nat):Option Blk->OS
 | some (.arr w ver' es)=>if ver=ver' then (pop s.A).bind (ZTV s b n w es) else none
 | _=>none
def XL(s:St):AV->OS
 | .ref lv ix ver b n=>if lv=s.A.length then ZTW s ver b n s.L[ix]? else none
 | .nils=>Y5 (.nils,s)
 | _=>none
def ZsG(vs:LV)(r:AV × St):OS:=some (.tup (r.1::vs),r.2)
def ZAC(r:AV × St):OS :=
 match r.1 with
 | .tup (v::vs)=>if vs.all (imm 6)=true then (XL r.2 v).bind (ZsG vs) else none
 | v=>XL r.2 v
def ZiH(st:St)(r:AV × St):OS:=ZAC (r.1,⟨st.A++[(st.ro,st.L)],r.2.ro,r.2.L⟩)
def Z4(O:Orc)(m:CM)(f:FuncId)(args:LV)(st:St):OS :=
 match m with
 | .norm=>O f args st
 | .own=>(O f args { st with ro:=true }).bind (Zlr st)
 | .pure=>(O f args st.allRo).bind (Z8 st)
 | .inner=>(O f args st.push).bind ZOB
 | .pin=>((O f args st.allRo.push).bind ZOB).bind (Z8 st)
 | .move=>(O f args st.push).bind ZAC
 | .give n=>if n<=st.L.length then (O f args st.allRo.push).bind (ZiH st) else none
def Xj(O:Orc)(m:CM)(args:LV)(st:St):AV->OS
 | .func (.func g) first cap=>Z4 O m g (ZH (first++args++cap)) st
 | .func (.yield lv) [] cs=>Z4 O m (yB+lv) (ZH (args++cs)) st
 | _=>none
def Zd(O:Orc)(e:Env)(st:St):PO->OS
 | .call m f args=>Xj O m (Xu e args) st (f.get e)
 | .w k o=>Zs e st o k
 | o=>evalPO e st o
def St.mask(st:St):St:={ A:=st.A.map fun _=>(true,[]),ro:=true,L:=st.L }
def Qs(O:Orc)(e:Env)(st:St)(i:PI):OS :=
 if i.own=true then (if i.op.reads=true then (evalPO e st.mask i.op).bind (Z8 st) else none) else Zd O e st i.op
def ZC5(e:Env):Option Nat->AV->Env
 | some d,v=>(d,v)::e
 | none,_=>e
def ZIV(want:Bool):AV->Option Bool
 | .bool b=>some (b == want)
 | .undef=>some false
 | _=>none
def wantedV(e:Env):Option (Nat × Bool)->Option Bool
 | none=>some true
 | some (t,want)=>ZIV want (look e t)
abbrev Zqo:=Env->St->Option (Env × St)
def Zui(K:Zqo)(e:Env)(d:Option Nat)(r:AV × St):Option (Env × St):=K (ZC5 e d r.1) r.2
def Zn8(O:Orc)(i:PI)(K:Zqo)(e:Env)(st:St):Bool->Option (Env × St)
 | true=>(Qs O e st i).bind (Zui K e i.dst)
 | false=>K (ZC5 e i.dst .undef) st
def JK(O:Orc):List PI->Zqo
 | []=>fun e st=>some (e,st)
 | i::is=>fun e st=>(wantedV e i.guard).bind (Zn8 O i (JK O is) e st)
def X4:List Nat->Env->Env
 | [],_=>[]
 | k::ks,e=>(k,look e k)::X4 ks e
abbrev Run:=Env->St->Option (Ex × Env × St)
def ZC6(F:Run):Ex × Env × St->Option (Ex × Env × St)
 | (.norm,e,st)=>F e st
 | (.ex id,e,st)=>some (.ex id,e,st)
 | (.ret,e,st)=>some (.ret,e,st)
def ZC7(id:Nat):Ex × Env × St->Option (Ex × Env × St)
 | (.norm,e,st)=>some (.norm,e,st)
 | (.ex id',e,st)=>if id'=id then some (.norm,e,st) else some (.ex id',e,st)
 | (.ret,e,st)=>some (.ret,e,st)
def ZAy(f:Run):Nat->Run
 | 0=>fun _ _=>none
 | n+1=>fun e st=>(f e st).bind (ZC6 (ZAy f n))
def Zls(F G:Run)(e:Env)(st:St):AV->Option (Ex × Env × St)
 | .bool true=>F e st
 | .bool false=>G e st
 | _=>none
def ZZa(keep:List Nat)(r:Env × St):Option (Ex × Env × St):=some (.norm,X4 keep r.1,r.2)
def Zn9(js:List Nat)(st:St):Option St:=if st.ro=true then none else some { st with L:=st.L++js.map Blk.hole }
def exec(O:Orc)(I:Run->Run):PC->Run
 | .skip=>fun e st=>some (.norm,e,st)
 | .ret=>fun e st=>some (.ret,e,st)
 | .exit id=>fun e st=>some (.ex id,e,st)
 | .seq a b=>fun e st=>(exec O I a e st).bind (ZC6 (exec O I b))
 | .ite c a b=>fun e st=>Zls (exec O I a) (exec O I b) e st (c.get e)
 | .block id b=>fun e st=>(exec O I b e st).bind (ZC7 id)
 | .loop b=>fun e st=>I (exec O I b) e st
 | .reg keep is=>fun e st=>(JK O is e st).bind (ZZa keep)
 | .regH js keep is=>fun e st=>(Zn9 js st).bind fun st=>(JK O is e st).bind (ZZa keep)
def ZCJ(st:St)(e:Env):RV->Option AV
 | .s t=>some (look e t)
 | .c t agg n=>loadP st agg n (look e t)
def ZC8(st:St)(e:Env):List RV->Option LV
 | []=>some []
 | r::rs=>(ZCJ st e r).bind fun v=>(ZC8 st e rs).map (v::·)
def ZGq:LV->AV
 | [v]=>v
 | vs=>.tup vs
def Qo(st:St)(e:Env)(rs:List RV):Option AV:=(ZC8 st e rs).map ZGq
def YK(n:Nat):LV->Env
 | []=>[]
 | v::vs=>(n,v)::YK (n+1) vs
inductive Ent where
 | pf (p:PF)
 | base (o:LV->St->OS)
abbrev Tab:=FuncId->Option Ent
def Jp(keep:Bool)(rs:List RV):Ex × Env × St->OS
 | (.ex _,_,_)=>none
 | (.norm,e,st)=>(Qo st e rs).bind (if keep=true then Qe st else ZLD st)
 | (.ret,e,st)=>(Qo st e rs).bind (if keep=true then Qe st else ZLD st)
def Jh(O:Orc)(I:Run->Run)(pf:PF)(args:LV)(st:St):OS :=
 (exec O I pf.body (YK 0 args) (if pf.keep=true then st else st.push)).bind (Jp pf.keep pf.res)
def entK(O:Orc)(I:Run->Run)(args:LV)(st:St):Ent->OS
 | .pf pf=>Jh O I pf args st
 | .base o=>o args st
def Qw(T:Tab):Nat->Orc
 | 0,_,_,_=>none
 | n+1,f,args,st=>(T f).bind (entK (Qw T n) (fun F=>ZAy F n) args st)
def Opd.slots:Opd->List Nat
 | .s t=>[t]
 | .v _=>[]
def ZcO:Option Opd->List Nat
 | none=>[]
 | some x=>x.slots
def ZTX:List Opd->List Nat
 | []=>[]
 | x::xs=>x.slots++ZTX xs
def ZjQ:List (Nat × Nat × Opd)->List Nat
 | []=>[]
 | p::ps=>p.2.2.slots++ZjQ ps
def ZjR:List (Nat × Opd)->List Nat
 | []=>[]
 | p::ps=>p.2.slots++ZjR ps
def PO.slots:PO->List Nat
 | .mv x=>x.slots
 | .pick c a b=>c.slots++(a.slots++b.slots)
 | .onil _=>[]
 | .box x=>x.slots
 | .boxnil _=>[]
 | .build _ ps=>ZjQ ps
 | .bslice _ _ _ ps=>ZjR ps
 | .ld _ _ a=>a.slots
 | .st _ a x=>a.slots++x.slots
 | .nilck x=>x.slots
 | .bin _ x y=>x.slots++y.slots
 | .eqs _ _ _ x y=>x.slots++y.slots
 | .un _ x=>x.slots
 | .cint _ x=>x.slots
 | .cstr x=>x.slots
 | .b2s x=>x.slots
 | .mkf _ f c=>ZTX f++ZTX c
 | .mkmap=>[]
 | .mkslice _ _ _ l c=>l.slots++c.slots
 | .slcS x lo hi=>x.slots++(ZcO lo++ZcO hi)
 | .slc _ x lo hi=>x.slots++(ZcO lo++ZcO hi)
 | .fadr _ x=>x.slots
 | .fld _ _ _ x=>x.slots
 | .ixS _ x i=>x.slots++i.slots
 | .ixA _ _ x i=>x.slots++i.slots
 | .ixStr x i=>x.slots++i.slots
 | .ixArr _ _ _ x i=>x.slots++i.slots
 | .look _ _ _ x i=>x.slots++i.slots
 | .mupd _ x k v=>x.slots++(k.slots++v.slots)
 | .mdel _ x k=>x.slots++k.slots
 | .len _ x=>x.slots
 | .app _ _ s x=>s.slots++x.slots
 | .cpy _ d x=>d.slots++x.slots
 | .mnx _ x y=>x.slots++y.slots
 | .ext x _=>x.slots
 | .call _ f l=>f.slots++ZTX l
 | .w _ _=>[]
def ZoA:Option (Nat × Bool)->List Nat
 | none=>[]
 | some (t,_)=>[t]
def WK.slots:WK->List Nat
 | .hide az=>ZTX az
 | .plain b=>b.slots
 | .grow b=>b.slots
 | .only b=>b.slots
 | .off b=>b.slots
 | .first b _=>b.slots
 | _=>[]
def PO.all:PO->List Nat
 | .w k o=>k.slots++o.slots
 | o=>o.slots
def PI.slots(p:PI):List Nat:=ZoA p.guard++p.op.all
def PO.pure:PO->Bool
 | .mv _|.pick ..|.build ..|.nilck _|.bin ..|.eqs ..|.un ..|.cint ..|.cstr _|.mkf ..|.slcS ..|.fadr ..|.fld ..|.ixA ..|.ixStr ..|.ixArr ..|.mnx ..|.ext ..=>true
 | .len k _=>decide (k≠2)
 | _=>false
def PO.adds:PO->Bool
 | .onil _|.box _|.boxnil _|.mkmap|.mkslice ..=>true
 | .bslice own ..=>own
 | _=>false
def Zlt:PO->Nat
 | .call .pure _ _=>4
 | .call .own _ _=>5
 | .call .pin _ _=>4
 | .w .blind _=>0
 | .w .imm _=>0
 | .w (.hide _) _=>1
 | .w (.only _) _=>1
 | .w (.first _ _) _=>1
 | .w .app0 _=>3
 | .w (.here _) _=>3
 | _=>6
def Opd.same:Opd->Opd->Bool
 | .s t,.s u=>t == u
 | _,_=>false
def ZsH:PO->PO->Bool
 | .w (.here i) _,.w (.here j) _=>i != j
 | .w (.hide az) _,.w (.plain b) _=>az.any (Opd.same b)
 | .w (.plain b) _,.w (.hide az) _=>az.any (Opd.same b)
 | .w (.only a) _,.w (.grow b) _=>Opd.same a b
 | .w (.only a) _,.w (.off b) _=>Opd.same a b
 | .call .inner _ _,.w (.here _) _=>true
 | .call .pin _ _,.w (.here _) _=>true
 | .w (.app0n n) _,.w (.first _ m) _=>decide (m<=n)
 | .call (.give n) _ _,.w (.first _ m) _=>decide (m<=n)
 | _,_=>false
def PI.kind(p:PI):Nat :=
 if p.own=true then 2 else if p.op.pure=true then 0 else if p.op.reads=true then 1 else if p.op.adds=true then 3 else Zlt p.op
def ZjS:Nat->Bool
 | 0|1|2|4=>true
 | _=>false
def ZsI(a b:Nat):Bool :=
 a == 0 || b == 0 || (ZjS a && ZjS b) || ((a == 1 || a == 2) && b == 3) || (a == 2 && b == 5) || (a == 5 && b == 2)
def ZcP:Option Nat->Option Nat->Bool
 | some a,some b=>a != b
 | _,_=>true
def notIn:Option Nat->List Nat->Bool
 | some d,l=>!l.contains d
 | none,_=>true
def ZY7(x p:PI):Bool:=(ZsI x.kind p.kind || (!x.own && !p.own && ZsH x.op p.op)) && (ZcP x.dst p.dst && (notIn x.dst p.slots && notIn p.dst x.slots))
def XC(o:Oper):List Nat:=(o.after.toList.filter (Region.binds .any)).map (·.on)
def ZOC(ms:List Nat):List Nat->Nat
 | []=>0
 | e::es=>2 ^ e ||| (ms.getD e 0 ||| ZOC ms es)
def ZUw(m:Nat)(p:PI):Nat->List PI->Bool
 | _,[]=>true
 | i,x::xs=>(m.testBit i || ZY7 x p) && ZUw m p (i+1) xs
def ZjT:Nat->List Nat->List PI->List Oper->List PI->Bool
 | k,ms,prev,o::os,p::ps =>
  (XC o).all (fun e=>decide (e<k)) && (ZUw (ZOC ms (XC o)) p 0 prev && ZjT (k+1) (ms++[ZOC ms (XC o)]) (prev++[p]) os ps)
 | _,_,_,_,_=>true
def ZsJ(ops:List Oper)(is:List PI):Bool:=ZjT 0 [] [] ops is
def ZcQ:Value->Option AV
 | .bool b=>some (.bool b)
 | .int k n=>some (.int k n)
 | .string s=>some (.str s.data.toList)
 | .pointer none=>some .nilptr
 | .slice none 0 0=>some .nils
 | .map none=>some .nilmap
 | .nilFunc=>some .nilfunc
 | .nilIface=>some .niliface
 | _=>none
def ZUx:Value->Option AV
 | .slice none 0 0=>some .nils
 | .agg cs=>(cs.toList.mapM ZcQ).map .agg
 | .tuple vs=>if vs.isEmpty=true then some (.tup []) else none
 | .func (.func f) a b=>if (a.isEmpty=true/\b.isEmpty=true)/\f<yB then some (.func (.func f) [] []) else none
 | v=>ZcQ v
def opd:Operand->Option Opd
 | .tmp t=>some (.s t)
 | .const v=>(ZUx v).map .v
 | .func f=>if f<yB then some (.v (.func (.func f) [] [])) else none
 | .global _=>none
def sz(P:Program)(t:TypeId):Option Nat:=(P.info? t).map (·.size)
def Yt(P:Program)(t:TypeId):Option Bool :=
 (P.underlying t).map fun d=>match d with
  | .struct _=>true
  | .array _ _=>true
  | _=>false
def ZC9(P:Program)(t:TypeId):Option AV:=((P.info? t).bind (·.zero)).bind ZUx
def Zlu(P:Program)(t:TypeId):Option Nat :=
 match P.underlying t with
 | some (.int _)=>some 0
 | some .string=>some 1
 | some .bool=>some 2
 | _=>none
def ZRM(P:Program):Nat->TypeId->Option (List (Nat × Nat))
 | 0,_=>none
 | d+1,t =>
  match P.underlying t with
  | some (.int _)=>some [(0,0)]
  | some .string=>some [(0,1)]
  | some .bool=>some [(0,2)]
  | some (.struct fs) =>
   if P.stoodInHeld t=true then none else
   (sz P t).bind fun n => (fs.toList.mapM fun f => if f.name = "_" then none else (ZRM P d f.type).map fun l => l.map fun p => (f.offset + p.1, p.2)).bind fun l =>
    if l.flatten.all (fun p=>decide (p.1<n))=true then some l.flatten else none
  | some (.array m e)=>(sz P t).bind fun n=>(sz P e).bind fun w=>(ZRM P d e).bind fun l =>
   if (((List.range m).map fun i=>l.map fun p=>(i*w+p.1,p.2)).flatten).all (fun p=>decide (p.1<n))=true then some ((List.range m).map fun i=>l.map fun p=>(i*w+p.1,p.2)).flatten else none
  | _=>none
def ZjU(P:Program)(fs:List Field):Option (List (Nat × Nat)):=fs.mapM fun f=>(sz P f.type).map fun n=>(f.offset,n)
def Zlv(l:List Operand):Option (List Opd):=l.mapM opd
def ZsK:Option Operand->Option (Option Opd)
 | none=>some none
 | some x=>(opd x).map some
structure Hint where
 keep:List Nat
 own:List Nat
 cm:List (Nat × CM)
 msk:List Nat
 wk:List (Nat × WK)
 js:List Nat
def Zqp:List (Nat × WK)->Nat->PO->PO
 | [],_,o=>o
 | (j,k)::l,i,o=>if j=i then .w k o else Zqp l i o
def XM(P:Program)(b:Builtin)(args:List Operand)(argTypes:List TypeId):Option PO :=
 match b,args,argTypes with
 | .len,[x],[t] =>
  match P.underlying t with
  | some .string=>(opd x).map (.len 0)
  | some (.slice _)=>(opd x).map (.len 1)
  | some (.map _ _)=>(opd x).map (.len 2)
  | _=>none
 | .append,[s,x],[t,u] =>
  match P.underlying t,P.underlying u with
  | some (.slice e),some (.slice _)=>(P.info? e).bind fun i=>if i.size=0\/i.zero.map (·.cells.size)≠some i.size then none else (opd s).bind fun s=>(opd x).map fun x=>.app i.size i.bytes s x
  | some (.slice e),some .string=>(P.info? e).bind fun i=>if i.size=1/\i.zero.map (·.cells.size)=some i.size then (opd s).bind fun s=>(opd x).map fun x=>.app i.size i.bytes s x else none
  | _,_=>none
 | .copy,[d,x],[t,u] =>
  match P.underlying t,P.underlying u with
  | some (.slice e),some (.slice _)=>(sz P e).bind fun w=>if w=0 then none else (opd d).bind fun d=>(opd x).map fun x=>.cpy w d x
  | _,_=>none
 | .min,[x,y],_=>(opd x).bind fun x=>(opd y).map fun y=>.mnx false x y
 | .max,[x,y],_=>(opd x).bind fun x=>(opd y).map fun y=>.mnx true x y
 | .delete,[m,k],[t,_] =>
  match P.underlying t with
  | some (.map key _)=>(Zlu P key).bind fun kk=>(opd m).bind fun m=>(opd k).map fun k=>.mdel kk m k
  | _=>none
 | _,_,_=>none
def ZOD(k:Nat)(ks:List (Nat × Nat))(a b:Opd):BinOp->Option PO
 | .eql=>some (.eqs false k ks a b)
 | .neq=>some (.eqs true k ks a b)
 | _=>none
def Q5(P:Program)(own:Bool)(cm:CM)(o:Oper):Option PO :=
 match o.op with
 | .move x|.assign x =>
  match own,x with
  | true,.const (.slice none 0 0) =>
   match P.underlying o.type with
   | some (.slice e)=>(sz P e).bind fun w=>if w=0 then none else some (.onil w)
   | _=>none
  | _,x=>(opd x).map .mv
 | .pick c a b=>(opd c).bind fun c=>(opd a).bind fun a=>(opd b).map fun b=>.pick c a b
 | .alloc e =>
  match own,P.underlying e with
  | true,some (.slice u)=>(sz P u).bind fun w=>if w=0 then none else
   match (P.info? e).bind (·.zero) with
   | some (.slice none 0 0)=>some (.boxnil w)
   | _=>none
  | _,_=>(ZC9 P e).map fun z=>.box (.v z)
 | .box e x =>
  match own,x with
  | true,.const (.slice none 0 0) =>
   match P.underlying e with
   | some (.slice u)=>(sz P u).bind fun w=>if w=0 then none else some (.boxnil w)
   | _=>none
  | _,x=>(opd x).map .box
 | .build t parts =>
  match (ZC9 P t).map AV.cells,P.underlying t with
  | some z,some (.struct fs) =>
   (ZjU P fs.toList).bind fun ps=>(parts.toList.mapM fun p=>(ps[p.1]?).bind fun q=>(opd p.2).map fun x=>(q.1,q.2,x)).map fun l=>.build z l
  | some z,some (.array _ e) =>
   (sz P e).bind fun w=>(parts.toList.mapM fun p=>(opd p.2).map fun x=>(p.1*w,w,x)).map fun l=>.build z l
  | _,_=>none
 | .buildSlice t len parts =>
  match P.underlying t with
  | some (.slice e)=>(sz P e).bind fun w=>if w=0\/len*w > 16777216 then none else
   (ZC9 P e).bind fun z=>if z.wide=some w then
    (parts.toList.mapM fun p=>(opd p.2).map fun x=>(p.1,x)).map fun l=>.bslice own w (List.replicate len z) l
   else none
  | _=>none
 | .load t a=>(Yt P t).bind fun g=>(sz P t).bind fun n=>(opd a).map fun a=>.ld g n a
 | .store t a x=>(sz P t).bind fun n=>(opd a).bind fun a=>(opd x).map fun x=>.st n a x
 | .nilCheck x=>(opd x).map .nilck
 | .binOp op t x y _ =>
  (opd x).bind fun a=>(opd y).bind fun b =>
   match P.underlying t with
   | some (.int _)=>some (.bin op a b)
   | some .string=>some (.bin op a b)
   | some .bool=>ZOD 6 [] a b op
   | some (.struct _)|some (.array _ _) =>
    if P.eqGuardType P.depth t=true then none else
    (ZRM P 6 t).bind fun ks=>ZOD 0 ks a b op
   | some (.pointer _)=>ZOD 3 [] a b op
   | some (.map _ _)=>ZOD 4 [] a b op
   | some (.func _ _ _)=>ZOD 5 [] a b op
   | _=>none
 | .unOp op _ x=>(opd x).map fun a=>.un op a
 | .convert s d x =>
  match P.underlying s,P.underlying d with
  | some (.int _),some (.int k)=>(opd x).map fun a=>.cint k a
  | some .string,some .string=>(opd x).map .cstr
  | some (.slice e),some .string=>match P.underlying e with
   | some (.int .u8)=>(opd x).map .b2s
   | _=>none
  | _,_=>none
 | .makeFunc fn f c=>if Zn5 fn=true then (Zlv f.toList).bind fun f=>(Zlv c.toList).map fun c=>.mkf fn f c else none
 | .makeMap _ none=>some .mkmap
 | .makeSlice t l c =>
  match P.underlying t with
  | some (.slice e)=>(P.info? e).bind fun i=>if i.size=0 then none else
   (ZC9 P e).bind fun z=>if z.wide=some i.size then (opd l).bind fun l=>(opd c).map fun c=>.mkslice i.size i.bytes z l c else none
  | _=>none
 | .slice t x lo hi none =>
  (opd x).bind fun x=>(ZsK lo).bind fun lo=>(ZsK hi).bind fun hi =>
   match P.underlying t with
   | some .string=>some (.slcS x lo hi)
   | some (.slice e)=>(sz P e).bind fun w=>if w=0 then none else some (.slc w x lo hi)
   | _=>none
 | .fieldAddr s x f =>
  match P.underlying s with
  | some (.struct fs)=>(fs[f]?).bind fun q=>(sz P q.type).bind fun n=>if n=0 then none else (opd x).map fun x=>.fadr q.offset x
  | _=>none
 | .field s x f =>
  match P.underlying s with
  | some (.struct fs)=>(fs[f]?).bind fun q=>(sz P q.type).bind fun n=>(Yt P q.type).bind fun g=>(opd x).map fun x=>.fld g q.offset n x
  | _=>none
 | .indexAddr t x i =>
  match P.underlying t with
  | some (.slice e)=>(sz P e).bind fun w=>if w=0 then none else (opd x).bind fun x=>(opd i).map fun i=>.ixS w x i
  | some (.array n e)=>(sz P e).bind fun w=>if w=0 then none else (opd x).bind fun x=>(opd i).map fun i=>.ixA n w x i
  | _=>none
 | .index t x i =>
  match P.underlying t with
  | some .string=>(opd x).bind fun x=>(opd i).map fun i=>.ixStr x i
  | some (.array n e)=>(sz P e).bind fun w=>(Yt P e).bind fun g=>(opd x).bind fun x=>(opd i).map fun i=>.ixArr g n w x i
  | _=>none
 | .lookup t x i ok =>
  match P.underlying t with
  | some (.map k e)=>(Zlu P k).bind fun kk=>(ZC9 P e).bind fun z=>(opd x).bind fun x=>(opd i).map fun i=>.look kk z ok x i
  | _=>none
 | .mapUpdate t m k v|.insert t m k v =>
  match P.underlying t with
  | some (.map key _)=>(Zlu P key).bind fun kk=>(opd m).bind fun m=>(opd k).bind fun k=>(opd v).map fun v=>.mupd kk m k v
  | _=>none
 | .extract x i=>(opd x).map fun x=>.ext x i
 | .call c =>
  match c.callee with
  | .builtin b=>XM P b c.args.toList c.argTypes.toList
  | .value f=>(opd f).bind fun f=>(Zlv c.args.toList).map fun l=>.call cm f l
  | .invoke _ _=>none
 | _=>none
def Zbw(ops:Array Oper):Option (Nat × Bool)->Option (Option (Nat × Bool))
 | none=>some none
 | some (j,b)=>((ops[j]?).bind (·.dst)).map fun t=>some (t,b)
def ZsL(nt:Nat):Option Nat->Bool
 | none=>true
 | some d=>decide (d<nt)
def cmOf:List (Nat × CM)->Nat->CM
 | [],_=>.norm
 | (j,m)::l,i=>if j=i then m else cmOf l i
def ZcR(P:Program)(nt:Nat)(ops:Array Oper)(h:Hint)(i:Nat)(o:Oper):Option PI :=
 if ZsL nt o.dst=true then
  (Q5 P (h.own.contains i) (cmOf h.cm i) o).bind fun p=>(Zbw ops o.guard).map fun g=>{ dst:=o.dst,guard:=g,own:=h.msk.contains i,op:=Zqp h.wk i p }
 else none
def ZW3(P:Program)(nt:Nat)(ops:Array Oper)(h:Hint):Nat->List Oper->Option (List PI)
 | _,[]=>some []
 | i,o::os=>(ZcR P nt ops h i o).bind fun p=>(ZW3 P nt ops h (i+1) os).map (p::·)
def ZsM(draw:Bool)(ops:List Oper)(is:List PI):Option (List PI):=if draw=true then (if ZsJ ops is=true then some is else none) else some is
def Zwg(js keep:List Nat)(is:List PI):PC:=if js.isEmpty=true then .reg keep is else .regH js keep is
def ZDA(P:Program)(nt:Nat):List Hint->Code->Option (PC × List Hint)
 | hs,.skip=>some (.skip,hs)
 | hs,.ret=>some (.ret,hs)
 | hs,.exit id=>some (.exit id,hs)
 | hs,.seq a b=>(ZDA P nt hs a).bind fun r=>(ZDA P nt r.2 b).map fun q=>(.seq r.1 q.1,q.2)
 | hs,.cond c a b=>(opd c).bind fun c=>(ZDA P nt hs a).bind fun r=>(ZDA P nt r.2 b).map fun q=>(.ite c r.1 q.1,q.2)
 | hs,.block id b=>(ZDA P nt hs b).map fun r=>(.block id r.1,r.2)
 | hs,.loop b=>(ZDA P nt hs b).map fun r=>(.loop r.1,r.2)
 | hs,.label _=>some (.skip,hs)
 | hs,.scope b=>ZDA P nt hs b
 | h::hs,.region _ ops draw=>((ZW3 P nt ops h 0 ops.toList).bind (ZsM draw ops.toList)).map fun is=>(Zwg h.js h.keep is,hs)
 | _,_=>none
def ZIW(P:Program):ResultVar->Option RV
 | .tmp t=>some (.s t)
 | .cell a t=>(Yt P t).bind fun g=>(sz P t).map fun n=>.c a g n
def Zf(P:Program)(keep:Bool)(hs:List Hint)(fn:Func):Option PF :=
 fn.body.bind fun c=>(ZDA P fn.ntmps hs c).bind fun r=>(fn.results.toList.mapM (ZIW P)).map fun rs=>{ keep,body:=r.1,res:=rs }
def Le(O O':Orc):Prop:=∀f a s r,O f a s=some r->O' f a s=some r
def RLe(F G:Run):Prop:=∀e s r,F e s=some r->G e s=some r
def ILe(I J:Run->Run):Prop:=∀F G,RLe F G->RLe (I F) (J G)
theorem Qa{α β:Type}{x y:Option α}{f g:α->Option β}(hx:∀a,x=some a->y=some a)(hf:∀a r,f a=some r->g a=some r)
 {r:β} (h:x.bind f=some r):y.bind g=some r:=by
 simp only[Option.bind_eq_some_iff]at h ⊢;obtain⟨a,ha,hr⟩:=h;exact⟨a,hx a ha,hf a r hr⟩
theorem ZcS(h:Le O O'){m:CM}{r:AV × St}(q:Z4 O m f args st=some r):
 Z4 O' m f args st=some r:=by
 cases m with
 | norm=>exact h _ _ _ _ q
 | own=>exact Qa (fun a=>h _ _ _ a) (fun _ _ q=>q) q
 | pure=>exact Qa (fun a=>h _ _ _ a) (fun _ _ q=>q) q
 | inner=>exact Qa (fun a=>h _ _ _ a) (fun _ _ q=>q) q
 | move=>exact Qa (fun a=>h _ _ _ a) (fun _ _ q=>q) q
 | give n =>
  simp only[Z4]at q ⊢
  split at q
  ·rename_i hn
   simp only[if_pos hn]
   exact Qa (fun a=>h _ _ _ a) (fun _ _ q=>q) q
  ·simp at q
 | pin=>exact Qa (fun a q=>Qa (fun a=>h _ _ _ a) (fun _ _ q=>q) q) (fun _ _ q=>q) q
theorem ZoB(h:Le O O'){m:CM}{r:AV × St}(q:Xj O m args st v=some r):
 Xj O' m args st v=some r:=by
 unfold Xj at q ⊢
 split at q
 ·exact ZcS h q
 ·exact ZcS h q
 ·simp at q
theorem Zlw(h:Le O O'){o:PO}{r:AV × St}(q:Zd O e st o=some r):Zd O' e st o=some r:=by
 cases o<;>try exact q
 exact ZoB h q
theorem ZTY(h:Le O O'){i:PI}{r:AV × St}(q:Qs O e st i=some r):Qs O' e st i=some r:=by
 unfold Qs at q ⊢
 split at q
 ·rename_i ho;rw[if_pos ho];exact q
 ·rename_i ho;rw[if_neg ho];exact Zlw h q
theorem YE{O O':Orc}(h:Le O O'):∀ {is:List PI} {e:Env} {st:St} {r:Env × St},JK O is e st=some r->JK O' is e st=some r
 | [],_,_,_,q=>q
 | i::is,e,st,r,q=>by
  refine Qa (fun _ q=>q) (fun w r q=>?_) q
  cases w with
  | true=>exact Qa (fun _ q=>ZTY h q) (fun _ _ q=>YE h q) q
  | false=>exact YE h q
theorem ZGr{F G:Run}(h:RLe F G){x r:Ex × Env × St}(q:ZC6 F x=some r):ZC6 G x=some r:=by
 obtain⟨x,e,st⟩:=x
 cases x with
 | norm=>exact h _ _ _ q
 | ex id=>exact q
 | ret=>exact q
theorem ZGs{F G:Run}(h:RLe F G):∀ {n m:Nat} {e:Env} {st:St} {r:Ex × Env × St},n<=m->ZAy F n e st=some r->ZAy G m e st=some r
 | 0,_,_,_,_,_,q=>by simp[ZAy]at q
 | n+1,0,_,_,_,hn,_=>by omega
 | n+1,m+1,e,st,r,hn,q=>Qa (fun _ q=>h _ _ _ q) (fun _ _ q=>ZGr (fun _ _ _ q=>ZGs h (by omega) q) q) q
theorem ZiI{I J:Run->Run}(h:Le O O')(hi:ILe I J):∀ {pc:PC} {e:Env} {st:St} {r:Ex × Env × St},
 exec O I pc e st=some r->exec O' J pc e st=some r:=by
 intro pc
 induction pc with
 | skip=>exact fun q=>q
 | ret=>exact fun q=>q
 | exit id=>exact fun q=>q
 | seq a b iha ihb=>exact fun q=>Qa (fun _ q=>iha q) (fun _ _ q=>ZGr (fun _ _ _ q=>ihb q) q) q
 | ite c a b iha ihb =>
  intro e st r q;simp only[exec]at q ⊢;unfold Zls at q ⊢
  split at q
  ·exact iha q
  ·exact ihb q
  ·simp at q
 | block id b ih=>exact fun q=>Qa (fun _ q=>ih q) (fun _ _ q=>q) q
 | loop b ih=>exact fun q=>hi _ _ (fun _ _ _ q=>ih q) _ _ _ q
 | reg keep is=>exact fun q=>Qa (fun _ q=>YE h q) (fun _ _ q=>q) q
 | regH js keep is=>exact fun q=>Qa (fun _ q=>q) (fun _ _ q=>Qa (fun _ q=>YE h q) (fun _ _ q=>q) q) q
theorem Zf6{I J:Run->Run}(h:Le O O')(hi:ILe I J){pf:PF}{r:AV × St}
 (q:Jh O I pf args st=some r):Jh O' J pf args st=some r :=
 Qa (fun _ q=>ZiI h hi q) (fun _ _ q=>q) q
def itN(n:Nat):Run->Run:=fun F=>ZAy F n
theorem ZoC{m:Nat}(h:n<=m):ILe (itN n) (itN m):=fun _ _ hF _ _ _ q=>ZGs hF h q
theorem Q8(T:Tab):∀n m,n<=m->Le (Qw T n) (Qw T m)
 | 0,_,_=>fun _ _ _ _ q=>by simp[Qw]at q
 | n+1,0,h=>by omega
 | n+1,m+1,h=>fun _ _ _ _ q=>Qa (fun _ q=>q) (fun x _ q=>by
  cases x with
  | pf pf=>exact Zf6 (Q8 T n m (by omega)) (ZoC (show n<=m by omega)) q
  | base o=>exact q) q
open Classical in
noncomputable def itS:Run->Run:=fun F e st=>if h:∃r,∃n,ZAy F n e st=some r then some h.choose else none
open Classical in
noncomputable def S(T:Tab):Orc:=fun f a st=>if h:∃r,∃n,Qw T n f a st=some r then some h.choose else none
theorem S_iff{T:Tab}{a:LV}{r:AV × St}:S T f a st=some r↔∃n,Qw T n f a st=some r:=by
 unfold S
 constructor
 ·intro q
  split at q
  ·rename_i h;simp only[Option.some.injEq]at q;subst q;exact h.choose_spec
  ·simp at q
 ·rintro⟨n,hn⟩
  have h:∃r,∃n,Qw T n f a st=some r:=⟨r,n,hn⟩;rw[dif_pos h];obtain⟨m,hm⟩:=h.choose_spec
  have h1:=Q8 T n (max n m) (by omega) _ _ _ _ hn
  have h2:=Q8 T m (max n m) (by omega) _ _ _ _ hm
  rw[h1]at h2;exact h2.symm
theorem itS_iff{F:Run}{r:Ex × Env × St}:itS F e st=some r↔∃n,ZAy F n e st=some r:=by
 unfold itS
 constructor
 ·intro q
  split at q
  ·rename_i h;simp only[Option.some.injEq]at q;subst q;exact h.choose_spec
  ·simp at q
 ·rintro⟨n,hn⟩
  have h:∃r,∃n,ZAy F n e st=some r:=⟨r,n,hn⟩;rw[dif_pos h];obtain⟨m,hm⟩:=h.choose_spec
  have h1:=ZGs (F:=F) (G:=F) (fun _ _ _ q=>q) (show n<=max n m by omega) hn
  have h2:=ZGs (F:=F) (G:=F) (fun _ _ _ q=>q) (show m<=max n m by omega) hm
  rw[h1]at h2;exact h2.symm
theorem JD{α β:Type}{x:Option α}{f:α->Option β}(y:Nat->Option α)(g:Nat->α->Option β)
 (my:∀n m,n<=m->∀a,y n=some a->y m=some a) (mg:∀n m,n<=m->∀a r,g n a=some r->g m a=some r)
 (hx:∀a,x=some a->∃n,y n=some a) (hf:∀a r,f a=some r->∃n,g n a=some r) {r:β} (h:x.bind f=some r) :
 ∃n,(y n).bind (g n)=some r:=by
 simp only[Option.bind_eq_some_iff]at h ⊢;obtain⟨a,ha,hr⟩:=h;obtain⟨n,hn⟩:=hx a ha;obtain⟨m,hm⟩:=hf a r hr
 exact⟨max n m,a,my n _ (by omega) a hn,mg m _ (by omega) a r hm⟩
theorem ZcT{T:Tab}{m:CM}{r:AV × St}(q:Z4 (S T) m f args st=some r):
 ∃n,Z4 (Qw T n) m f args st=some r:=by
 cases m with
 | norm=>exact S_iff.1 q
 | own=>exact JD (fun n=>Qw T n f args { st with ro:=true }) (fun _=>Zlr st) (fun n m h a q=>Q8 T n m h _ _ _ _ q) (fun _ _ _ _ _ q=>q) (fun a q=>S_iff.1 q) (fun _ _ q=>⟨0,q⟩) q
 | pure=>exact JD (fun n=>Qw T n f args st.allRo) (fun _=>Z8 st) (fun n m h a q=>Q8 T n m h _ _ _ _ q) (fun _ _ _ _ _ q=>q) (fun a q=>S_iff.1 q) (fun _ _ q=>⟨0,q⟩) q
 | inner=>exact JD (fun n=>Qw T n f args st.push) (fun _=>ZOB) (fun n m h a q=>Q8 T n m h _ _ _ _ q) (fun _ _ _ _ _ q=>q) (fun a q=>S_iff.1 q) (fun _ _ q=>⟨0,q⟩) q
 | move=>exact JD (fun n=>Qw T n f args st.push) (fun _=>ZAC) (fun n m h a q=>Q8 T n m h _ _ _ _ q) (fun _ _ _ _ _ q=>q) (fun a q=>S_iff.1 q) (fun _ _ q=>⟨0,q⟩) q
 | give n =>
  simp only[Z4]at q ⊢
  split at q
  ·rename_i hn
   simp only[if_pos hn]
   exact JD (fun n=>Qw T n f args st.allRo.push) (fun _=>ZiH st) (fun n m h a q=>Q8 T n m h _ _ _ _ q) (fun _ _ _ _ _ q=>q) (fun a q=>S_iff.1 q) (fun _ _ q=>⟨0,q⟩) q
  ·simp at q
 | pin=>exact JD (fun n=>(Qw T n f args st.allRo.push).bind ZOB) (fun _=>Z8 st) (fun n m h a q=>Qa (fun a q=>Q8 T n m h _ _ _ _ q) (fun _ _ q=>q) q) (fun _ _ _ _ _ q=>q) (fun a q=>JD (fun n=>Qw T n f args st.allRo.push) (fun _=>ZOB) (fun n m h a q=>Q8 T n m h _ _ _ _ q) (fun _ _ _ _ _ q=>q) (fun a q=>S_iff.1 q) (fun _ _ q=>⟨0,q⟩) q) (fun _ _ q=>⟨0,q⟩) q
theorem ZoD{T:Tab}{i:PI}{r:AV × St}(q:Qs (S T) e st i=some r):∃n,Qs (Qw T n) e st i=some r:=by
 unfold Qs at q ⊢
 split at q
 ·rename_i ho;exact⟨0,by rw[if_pos ho];exact q⟩
 ·rename_i ho
  simp only[if_neg ho];generalize i.op=o at q ⊢
  cases o<;>try exact⟨0,q⟩
  rename_i m f args
  simp only[Zd]at q ⊢;unfold Xj at q ⊢
  split at q
  ·exact ZcT q
  ·exact ZcT q
  ·simp at q
theorem ZIX{T:Tab}:∀ {is:List PI} {e:Env} {st:St} {r:Env × St},JK (S T) is e st=some r->∃n,JK (Qw T n) is e st=some r
 | [],_,_,_,q=>⟨0,q⟩
 | i::is,e,st,r,q=>by
  refine JD (fun _=>wantedV e i.guard) (fun n=>Zn8 (Qw T n) i (JK (Qw T n) is) e st) (fun _ _ _ _ q=>q) ?_ (fun a q=>⟨0,q⟩) ?_ q
  ·intro n m h w r q
   cases w with
   | true=>exact Qa (fun _ q=>ZTY (Q8 T n m h) q) (fun _ _ q=>YE (Q8 T n m h) q) q
   | false=>exact YE (Q8 T n m h) q
  ·intro w r q
   cases w with
   | true=>exact JD (fun n=>Qs (Qw T n) e st i) (fun n=>Zui (JK (Qw T n) is) e i.dst) (fun n m h a q=>ZTY (Q8 T n m h) q) (fun n m h a r q=>YE (Q8 T n m h) q) (fun a q=>ZoD q) (fun a r q=>ZIX q) q
   | false=>exact ZIX q
theorem ZFy(T:Tab){m:Nat}(h:n<=m){pc:PC}:RLe (exec (Qw T n) (itN n) pc) (exec (Qw T m) (itN m) pc) :=
 fun _ _ _ q=>ZiI (Q8 T n m h) (ZoC h) q
theorem Zqq{T:Tab}:∀ {pc:PC} {e:Env} {st:St} {r:Ex × Env × St},
 exec (S T) itS pc e st=some r->∃n,exec (Qw T n) (itN n) pc e st=some r:=by
 intro pc
 induction pc with
 | skip=>exact fun q=>⟨0,q⟩
 | ret=>exact fun q=>⟨0,q⟩
 | exit id=>exact fun q=>⟨0,q⟩
 | seq a b iha ihb =>
  intro e st r q
  refine JD (fun n=>exec (Qw T n) (itN n) a e st) (fun n=>ZC6 (exec (Qw T n) (itN n) b)) (fun n m h a q=>ZFy T h _ _ _ q) (fun n m h a r q=>ZGr (ZFy T h) q) (fun a q=>iha q) ?_ q
  intro x r q;obtain⟨x,e',st'⟩:=x
  cases x with
  | norm=>exact ihb q
  | ex id=>exact⟨0,q⟩
  | ret=>exact⟨0,q⟩
 | ite c a b iha ihb =>
  intro e st r q;simp only[exec]at q ⊢;unfold Zls at q ⊢
  split at q
  ·exact iha q
  ·exact ihb q
  ·simp at q
 | block id b ih =>
  intro e st r q
  exact JD (fun n=>exec (Qw T n) (itN n) b e st) (fun _=>ZC7 id) (fun n m h a q=>ZFy T h _ _ _ q) (fun _ _ _ _ _ q=>q) (fun a q=>ih q) (fun _ _ q=>⟨0,q⟩) q
 | loop b ih =>
  intro e st r q;simp only[exec]at q ⊢;obtain⟨k,hk⟩:=itS_iff.1 q;clear q
  induction k generalizing e st r with
  | zero=>simp[ZAy]at hk
  | succ k ihk =>
   obtain⟨n,hn⟩:=JD (fun n=>exec (Qw T n) (itN n) b e st) (fun n=>ZC6 (itN n (exec (Qw T n) (itN n) b)))
    (fun n m h a q=>ZFy T h _ _ _ q) (fun n m h a r q=>ZGr (fun e s r q=>ZoC h _ _ (ZFy T h) _ _ _ q) q) (fun a q=>ih q)
    (fun x r q=>by
     obtain⟨x,e',st'⟩:=x
     cases x with
     | norm=>exact ihk (e:=e') (st:=st') (by simpa only [ZC6] using q)
     | ex id=>exact⟨0,q⟩
     | ret=>exact⟨0,q⟩) hk
   refine⟨n+1,?_⟩
   exact Qa (fun a q=>ZFy T (show n<=n+1 by omega) _ _ _ q) (fun x r q=>ZGr (fun e s r q=>ZGs (ZFy T (show n<=n+1 by omega)) (Nat.le_refl n) q) q) hn
 | reg keep is =>
  intro e st r q
  exact JD (fun n=>JK (Qw T n) is e st) (fun _=>ZZa keep) (fun n m h a q=>YE (Q8 T n m h) q) (fun _ _ _ _ _ q=>q) (fun a q=>ZIX q) (fun _ _ q=>⟨0,q⟩) q
 | regH js keep is =>
  intro e st r q
  exact JD (fun _=>Zn9 js st) (fun n st=>(JK (Qw T n) is e st).bind (ZZa keep)) (fun _ _ _ _ q=>q) (fun n m h a r q=>Qa (fun _ q=>YE (Q8 T n m h) q) (fun _ _ q=>q) q) (fun a q=>⟨0,q⟩)
   (fun a r q=>JD (fun n=>JK (Qw T n) is e a) (fun _=>ZZa keep) (fun n m h a q=>YE (Q8 T n m h) q) (fun _ _ _ _ _ q=>q) (fun a q=>ZIX q) (fun _ _ q=>⟨0,q⟩) q) q
theorem Zqr{T:Tab}{pf:PF}{r:AV × St}(hT:T f=some (.pf pf))(q:Jh (S T) itS pf args st=some r):
 S T f args st=some r:=by
 obtain⟨n,hn⟩:=JD (fun n=>exec (Qw T n) (itN n) pf.body (YK 0 args) (if pf.keep=true then st else st.push)) (fun _=>Jp pf.keep pf.res) (fun n m h a q=>ZFy T h _ _ _ q) (fun _ _ _ _ _ q=>q) (fun a q=>Zqq q) (fun _ _ q=>⟨0,q⟩) q
 refine S_iff.2 ⟨n+1,?_⟩;simp only[Qw,Option.bind_eq_some_iff];exact⟨.pf pf,hT,hn⟩
theorem ZsN{T:Tab}{o:LV->St->OS}{r:AV × St}(hT:T f=some (.base o))(q:o args st=some r):S T f args st=some r:=by
 refine S_iff.2 ⟨1,?_⟩;simp only[Qw,Option.bind_eq_some_iff];exact⟨.base o,hT,q⟩
theorem ZGt(F:Run)(e:Env)(st:St):itS F e st=(F e st).bind (ZC6 (itS F)):=by
 cases hx:F e st with
 | none =>
  cases hr:itS F e st with
  | none=>rfl
  | some r =>
   obtain⟨n,hn⟩:=itS_iff.1 hr
   cases n with
   | zero=>simp[ZAy]at hn
   | succ n=>simp[ZAy,hx]at hn
 | some x =>
  obtain⟨x,e',st'⟩:=x
  cases x with
  | norm =>
   simp only[Option.bind_some,ZC6]
   cases hq:itS F e' st' with
   | some r =>
    obtain⟨n,hn⟩:=itS_iff.1 hq
    exact itS_iff.2 ⟨n+1,by simp only[ZAy,hx,Option.bind_some,ZC6];exact hn⟩
   | none =>
    cases hr:itS F e st with
    | none=>rfl
    | some r =>
     obtain⟨n,hn⟩:=itS_iff.1 hr
     cases n with
     | zero=>simp[ZAy]at hn
     | succ n =>
      simp only[ZAy,hx,Option.bind_some,ZC6]at hn;rw[itS_iff.2 ⟨n,hn⟩]at hq
      simp at hq
  | ex id=>exact itS_iff.2 ⟨1,by simp[ZAy,hx,ZC6]⟩
  | ret=>exact itS_iff.2 ⟨1,by simp[ZAy,hx,ZC6]⟩
section
variable (O:Orc)(I:Run->Run)(e:Env)(st:St)
theorem ZcU(a b:PC):exec O I (.seq a b) e st=(exec O I a e st).bind (ZC6 (exec O I b)):=rfl
theorem Zlx(c:Opd)(a b:PC):exec O I (.ite c a b) e st=Zls (exec O I a) (exec O I b) e st (c.get e):=rfl
theorem ZIY(id:Nat)(b:PC):exec O I (.block id b) e st=(exec O I b e st).bind (ZC7 id):=rfl
theorem ZCt(b:PC):exec O itS (.loop b) e st=itS (exec O itS b) e st:=rfl
theorem ZsO(keep:List Nat)(is:List PI):exec O I (.reg keep is) e st=(JK O is e st).bind (ZZa keep):=rfl
theorem ZAD(i:PI)(is:List PI):JK O (i::is) e st=(wantedV e i.guard).bind (Zn8 O i (JK O is) e st):=rfl
theorem ZiJ(i:PI)(K:Zqo):Zn8 O i K e st true=(Qs O e st i).bind (Zui K e i.dst):=rfl
theorem ZIZ(i:PI)(K:Zqo):Zn8 O i K e st false=K (ZC5 e i.dst .undef) st:=rfl
theorem ZW4(F:Run):ZC6 F (.norm,e,st)=F e st:=rfl
theorem Zqs(F G:Run):Zls F G e st (.bool true)=F e st:=rfl
theorem ZoE(F G:Run):Zls F G e st (.bool false)=G e st:=rfl
theorem Zuj(K:Zqo)(d:Option Nat)(v:AV):Zui K e d (v,st)=K (ZC5 e d v) st:=rfl
end
theorem St.get_push(A:List (Bool × List Blk))(ro r:Bool)(L0 L:List Blk)(lv ix:Nat):
 St.get ⟨A++[(ro,L0)],r,L⟩ lv ix=if lv=A.length+1 then vis L[ix]? else St.get ⟨A,ro,L0⟩ lv ix:=by
 simp only[St.get,List.length_append,List.length_cons,List.length_nil,Nat.zero_add]
 by_cases h1:lv=A.length+1
 ·simp[h1]
 ·by_cases h2:lv=A.length
  ·simp[h2]
  ·simp only[if_neg h1,if_neg h2]
   by_cases h3:lv<A.length
   ·rw[jL h3]
   ·rw[List.getElem?_eq_none (by simp;omega),List.getElem?_eq_none (by omega)]
theorem St.get_cur(A:List (Bool × List Blk))(ro:Bool)(L:List Blk)(ix:Nat):St.get ⟨A,ro,L⟩ A.length ix=vis L[ix]?:=by simp[St.get]
theorem St.get_le{lv:Nat}{b:Blk}(h:st.get lv ix=some b):lv<=st.A.length:=by
 unfold St.get at h
 split at h
 ·omega
 ·rename_i h1
  by_cases h2:lv<st.A.length
  ·omega
  ·rw[List.getElem?_eq_none (by omega)]at h;simp at h
theorem St.new_cur(A:List (Bool × List Blk))(L:List Blk)(b:Blk):St.new ⟨A,false,L⟩ b=some (L.length,⟨A,false,L++[b]⟩):=by
 simp[St.new]
theorem Yd(A:List (Bool × List Blk))(r:Bool × List Blk):pop (A++[r])=some (A,r):=by
 induction A with
 | nil=>rfl
 | cons a A ih =>
  cases A with
  | nil=>rfl
  | cons b A=>simp only[List.cons_append]at ih ⊢;simp[pop,ih]
end Go.QAbs
namespace Go.QAbs
open Go.RowKit (Below)
variable {v:AV}{blk:Blk}{agg:Bool}{e:Env}{f:FuncId}{args es es' vs:LV}{xs ys:List Value}{b c clock i ix j n o ver w:Nat}{ob:Obj}{O O':Orc}{st st' st2:St}
structure Loc where
 b:Nat
 o:Nat
 c:Nat
structure Rho where
 at_:Nat->Nat->Loc
 yl:Nat->Nat × List Value
instance:CoeFun Rho fun _=>Nat->Nat->Loc:=⟨Rho.at_⟩
structure Bse where
 n:Nat
 y:Nat->Nat × List Value
instance:Coe Bse Nat:=⟨Bse.n⟩
abbrev Zpr:=Nat->Nat->Value->Prop
def Lies(cell:Zpr)(b o:Nat)(x:Value):Prop:=∀j v,x.cells[j]?=some v->cell b (o+j) v
structure Cx where
 im:Zpr
 ptr:Nat->Nat->Nat->Nat->Nat->Value->Prop
 ref:Nat->Nat->Nat->Nat->Nat->Value->Prop
 map:Nat->Nat->Value->Prop
 yl:Nat->Nat->List Value->Prop
def Cx.pure(C:Cx):Cx:=⟨C.im,fun _ _ _ _ _ _=>False,fun _ _ _ _ _ _=>False,fun _ _ _=>False,fun _ _ _=>False⟩
structure Cx.le(C D:Cx):Prop where
 im:∀b o v,C.im b o v->D.im b o v
 ptr:∀lv ix ver i o v,C.ptr lv ix ver i o v->D.ptr lv ix ver i o v
 ref:∀lv ix ver s n v,C.ref lv ix ver s n v->D.ref lv ix ver s n v
 map:∀lv ix v,C.map lv ix v->D.map lv ix v
 yl:∀lv l tm,C.yl lv l tm->D.yl lv l tm
theorem Cx.le.refl(C:Cx):C.le C:=⟨fun _ _ _ h=>h,fun _ _ _ _ _ _ h=>h,fun _ _ _ _ _ _ h=>h,fun _ _ _ h=>h,fun _ _ _ h=>h⟩
theorem Cx.le.trans{C D E:Cx}(h:C.le D)(k:D.le E):C.le E :=
 ⟨fun _ _ _ q=>k.im _ _ _ (h.im _ _ _ q),fun _ _ _ _ _ _ q=>k.ptr _ _ _ _ _ _ (h.ptr _ _ _ _ _ _ q),fun _ _ _ _ _ _ q=>k.ref _ _ _ _ _ _ (h.ref _ _ _ _ _ _ q),fun _ _ _ q=>k.map _ _ _ (h.map _ _ _ q),fun _ _ _ q=>k.yl _ _ _ (h.yl _ _ _ q)⟩
theorem Cx.le.pure{C D:Cx}(h:C.le D):C.pure.le D.pure:=⟨h.im,fun _ _ _ _ _ _ h=>h,fun _ _ _ _ _ _ h=>h,fun _ _ _ h=>h,fun _ _ _ h=>h⟩
theorem Cx.pure_le(C:Cx):C.pure.le C:=⟨fun _ _ _ h=>h,fun _ _ _ _ _ _ h=>h.elim,fun _ _ _ _ _ _ h=>h.elim,fun _ _ _ h=>h.elim,fun _ _ _ h=>h.elim⟩
inductive R:Cx->AV->Value->Prop where
 | any {C:Cx} (v:Value):R C .any v
 | undef {C:Cx}:R C .undef undef
 | bool {C:Cx} (b:Bool):R C (.bool b) (.bool b)
 | int {C:Cx} (k:IntKind) (n:Int):R C (.int k n) (.int k n)
 | str {C:Cx} (s:B8):R C (.str s) (.string ⟨s.toArray⟩)
 | nilptr {C:Cx}:R C .nilptr (.pointer none)
 | ptr {C:Cx} {lv ix ver i o:Nat} {v:Value} (h:C.ptr lv ix ver i o v):R C (.ptr lv ix ver i o) v
 | lptr {C:Cx} {e:AV} {b p o:Nat} {x:Value} (h:R C.pure e x) (hl:Lies C.im b p x):R C (.lptr e o) (.pointer (some ⟨b,p+o,none⟩))
 | nils {C:Cx} (a:Option Addr):R C .nils (.slice a 0 0)
 | lit0 {C:Cx} (a:Option Addr) (c:Nat):R C (.lit []) (.slice a 0 c)
 | lit {C:Cx} {es:LV} {b o w c:Nat} (xs:Nat->Value) (h:∀(i:Nat) (e:AV),es[i]?=some e->R C.pure e (xs i))
  (hl:∀(i:Nat),i<es.length->(xs i).cells.size=w/\Lies C.im b (o+i*w) (xs i)) (hc:es.length<=c):R C (.lit es) (.slice (some ⟨b,o,none⟩) es.length c)
 | ref {C:Cx} {lv ix ver s n:Nat} {v:Value} (h:C.ref lv ix ver s n v):R C (.ref lv ix ver s n) v
 | nilmap {C:Cx}:R C .nilmap (.map none)
 | map {C:Cx} {lv ix:Nat} {v:Value} (h:C.map lv ix v):R C (.map lv ix) v
 | func {C:Cx} (fn:Fn) (hn:Zn5 fn=true) {f c:LV} {xs ys:List Value} (hf:f.length=xs.length) (hc:c.length=ys.length)
  (rf:∀(i:Nat) (v:AV) (x:Value),f[i]?=some v->xs[i]?=some x->R C v x) (rc:∀(i:Nat) (v:AV) (x:Value),c[i]?=some v->ys[i]?=some x->R C v x):R C (.func fn f c) (.func fn xs.toArray ys.toArray)
 | yld {C:Cx} {lv l:Nat} {tm:List Value} {cs:LV} (h:C.yl lv l tm) (hl:cs.length=tm.length)
  (rc:∀(i:Nat) (v:AV) (x:Value),cs[i]?=some v->tm[i]?=some x->R C v x):R C (.func (.yield lv) [] cs) (.func (.yield l) #[] #[])
 | nilfunc {C:Cx}:R C .nilfunc .nilFunc
 | iface {C:Cx} (t:TypeId) {v:AV} {x:Value} (h:R C v x):R C (.iface t v) (.iface t x)
 | niliface {C:Cx}:R C .niliface .nilIface
 | agg {C:Cx} {cs:LV} {xs:List Value} (hl:cs.length=xs.length) (h:∀(i:Nat) (v:AV) (x:Value),cs[i]?=some v->xs[i]?=some x->R C v x):R C (.agg cs) (.agg xs.toArray)
 | tup {C:Cx} {cs:LV} {xs:List Value} (hl:cs.length=xs.length) (h:∀(i:Nat) (v:AV) (x:Value),cs[i]?=some v->xs[i]?=some x->R C v x):R C (.tup cs) (.tuple xs.toArray)
theorem Lies.mono{c d:Zpr}{x:Value}(h:Lies c b o x)(k:∀b o v,c b o v->d b o v):Lies d b o x:=fun j v hv=>k _ _ _ (h j v hv)
theorem R.mono{C D:Cx}{x:Value}(h:R C v x)(k:C.le D):R D v x:=by
 induction h generalizing D with
 | any v=>exact .any v
 | undef=>exact .undef
 | bool b=>exact .bool b
 | int q n=>exact .int q n
 | str s=>exact .str s
 | nilptr=>exact .nilptr
 | ptr h=>exact .ptr (k.ptr _ _ _ _ _ _ h)
 | lptr h hl ih=>exact .lptr (ih k.pure) (hl.mono k.im)
 | nils a=>exact .nils a
 | lit0 a c=>exact .lit0 a c
 | lit xs h hl hc ih=>exact .lit xs (fun i e he=>ih i e he k.pure) (fun i hi=>⟨(hl i hi).1,(hl i hi).2.mono k.im⟩) hc
 | ref h=>exact .ref (k.ref _ _ _ _ _ _ h)
 | nilmap=>exact .nilmap
 | map h=>exact .map (k.map _ _ _ h)
 | func fn hn hf hc rf rc ihf ihc=>exact .func fn hn hf hc (fun i v x a b=>ihf i v x a b k) (fun i v x a b=>ihc i v x a b k)
 | yld h hl rc ih=>exact .yld (k.yl _ _ _ h) hl (fun i v x a b=>ih i v x a b k)
 | nilfunc=>exact .nilfunc
 | iface t h ih=>exact .iface t (ih k)
 | niliface=>exact .niliface
 | agg hl h ih=>exact .agg hl (fun i v x a b=>ih i v x a b k)
 | tup hl h ih=>exact .tup hl (fun i v x a b=>ih i v x a b k)
def RL(C:Cx)(vs:LV)(xs:List Value):Prop:=vs.length=xs.length/\∀(i:Nat) (v:AV) (x:Value),vs[i]?=some v->xs[i]?=some x->R C v x
theorem RL.nil(C:Cx):RL C [] []:=⟨rfl,by simp⟩
theorem RL.cons{C:Cx}{x:Value}(h:R C v x)(k:RL C vs xs):RL C (v::vs) (x::xs):=by
 refine⟨by simp[k.1],fun i a b ha hb=>?_⟩
 cases i with
 | zero=>simp at ha hb;subst ha;subst hb;exact h
 | succ i=>exact k.2 i a b (by simpa using ha) (by simpa using hb)
theorem RL.head{C:Cx}{x:Value}(h:RL C (v::vs) (x::xs)):R C v x:=h.2 0 v x rfl rfl
theorem RL.tail{C:Cx}{x:Value}(h:RL C (v::vs) (x::xs)):RL C vs xs :=
 ⟨by have:=h.1;simpa using this,fun i a b ha hb=>h.2 (i+1) a b (by simpa using ha) (by simpa using hb)⟩
theorem RL.cons_inv{C:Cx}(h:RL C (v::vs) ys):∃x xs,ys=x::xs/\R C v x/\RL C vs xs:=by
 cases ys with
 | nil=>have:=h.1;simp at this
 | cons x xs=>exact⟨x,xs,rfl,h.head,h.tail⟩
theorem RL.nil_inv{C:Cx}(h:RL C [] ys):ys=[]:=by
 cases ys with
 | nil=>rfl
 | cons x xs=>have:=h.1;simp at this
theorem RL.mono{C D:Cx}(h:RL C vs xs)(k:C.le D):RL D vs xs:=⟨h.1,fun i v x a b=>(h.2 i v x a b).mono k⟩
theorem RL.append{C:Cx}{us:LV}(h:RL C vs xs)(k:RL C us ys):RL C (vs++us) (xs++ys):=by
 induction vs generalizing xs with
 | nil=>rw[h.nil_inv];exact k
 | cons v vs ih=>obtain⟨x,xs,rfl,h1,h2⟩:=h.cons_inv;exact .cons h1 (ih h2)
theorem RL.take{C:Cx}(h:RL C vs xs)(n:Nat):RL C (vs.take n) (xs.take n):=by
 refine⟨by simp[h.1],fun i v x a b=>?_⟩
 simp only[List.getElem?_take]at a b
 split at a
 ·rename_i hi;rw[if_pos hi]at b;exact h.2 i v x a b
 ·simp at a
theorem RL.drop{C:Cx}(h:RL C vs xs)(n:Nat):RL C (vs.drop n) (xs.drop n):=by
 refine⟨by simp[h.1],fun i v x a b=>?_⟩
 simp only[List.getElem?_drop]at a b;exact h.2 _ v x a b
theorem RL.get{C:Cx}(h:RL C vs xs)(hv:vs[i]?=some v):∃x,xs[i]?=some x/\R C v x:=by
 have hi:i<vs.length:=by
  rcases Nat.lt_or_ge i vs.length with h'|h'
  ·exact h'
  ·rw[List.getElem?_eq_none h']at hv;simp at hv
 have hx:i<xs.length:=by rw[<- h.1];exact hi
 exact⟨xs[i],jE hx,h.2 i v _ hv (jE hx)⟩
theorem RL.set{C:Cx}(h:RL C vs xs){x:Value}(k:R C v x)(n:Nat):RL C (vs.set n v) (xs.set n x):=by
 refine⟨by simp[h.1],fun i a b ha hb=>?_⟩
 rw[List.getElem?_set]at ha hb
 by_cases hn:n=i
 ·subst hn
  simp only[if_true]at ha hb
  split at ha<;>split at hb<;>simp at ha hb
  subst ha;subst hb;exact k
 ·rw[if_neg hn]at ha hb;exact h.2 i a b ha hb
theorem R.agg'{C:Cx}{cs:LV}(h:RL C cs xs):R C (.agg cs) (.agg xs.toArray):=.agg h.1 h.2
theorem R.tup'{C:Cx}{cs:LV}(h:RL C cs xs):R C (.tup cs) (.tuple xs.toArray):=.tup h.1 h.2
theorem Zuk{fn:Fn}(h:Zn5 fn=true)(b:Nat):Zqm b fn=true:=by cases fn<;>first|rfl|simp[Zn5]at h
def Mut(st:St)(ρ:Rho)(b o:Nat):Prop :=
 ∃lv ix w ver es,st.get lv ix=some (.arr w ver es)/\(ρ lv ix).b=b/\(ρ lv ix).o<=o/\o<(ρ lv ix).o+(ρ lv ix).c*w
def Qb(W:World):Zpr:=fun b o v=>W.cell? ⟨b,o,none⟩=some v
def cx(st:St)(ρ:Rho)(W:World)(m:Nat):Cx where
 im:=fun b o v=>Qb W b o v/\¬ Mut st ρ b o
 ptr:=fun lv ix ver i o v=>lv<=m/\(st.get lv ix).isSome=true/\(∃a,v=.pointer (some a))/\(∀w u es,st.get lv ix=some (.arr w u es)->ver<=u) /\
  ∀w es,st.get lv ix=some (.arr w ver es)->v=.pointer (some ⟨(ρ lv ix).b,(ρ lv ix).o+i*w+o,none⟩)
 ref:=fun lv ix ver s n v=>lv<=m/\(st.get lv ix).isSome=true/\(∀w u es,st.get lv ix=some (.arr w u es)->ver<=u)/\∃a c,v=.slice a n c /\
  ∀w es,st.get lv ix=some (.arr w ver es)->s+n<=es.length/\c+s=(ρ lv ix).c/\(s<(ρ lv ix).c->a=some ⟨(ρ lv ix).b,(ρ lv ix).o+s*w,none⟩)
 map:=fun lv ix v=>lv<=m/\(st.get lv ix).isSome=true/\∃r,v=.map (some r)/\∀es,st.get lv ix=some (.map es)->r=(ρ lv ix).b
 yl:=fun lv l tm=>lv<=m/\ρ.yl lv=(l,tm)
structure ArrOk(B0:Nat)(C:Cx)(W:World)(l:Loc)(w:Nat)(es:LV):Prop where
 len:es.length<=l.c
 el:∀(i:Nat) (e:AV),es[i]?=some e->∃x,R C e x/\x.cells.size=w/\Lies (Qb W) l.b (l.o+i*w) x
 mem:∀j,j<l.c*w->B0<=l.b/\(W.cell? ⟨l.b,l.o+j,none⟩).isSome=true/\W.frozen? ⟨l.b,l.o+j,none⟩=false
structure MapFit(en:Array MapEntry)(clock n:Nat):Prop where
 sz:en.size=n
 nd:(en.toList.map (·.born)).Nodup
 lt:∀x∈en.toList,x.born<clock
theorem MapFit.nil(c:Nat):MapFit #[] c 0:=⟨rfl,by simp,by simp⟩
theorem MapFit.push{en:Array MapEntry}(h:MapFit en clock n)(k v:Value):MapFit (en.push { key:=k,val:=v,born:=clock }) (clock+1) (n+1):=by
 refine⟨by simp[h.sz],?_,?_⟩
 ·simp only[Array.toList_push,List.map_append,jC,List.map_nil]
  rw[List.nodup_append]
  refine⟨h.nd,by simp,?_⟩
  intro a ha b hb;simp only[List.mem_singleton]at hb;obtain⟨x,hx,rfl⟩:=List.mem_map.1 ha
  have:=h.lt x hx
  omega
 ·intro x hx
  simp only[Array.toList_push,List.mem_append,List.mem_singleton]at hx
  rcases hx with hx|rfl
  ·have:=h.lt x hx;omega
  ·simp
theorem MapFit.of_born{en en2:Array MapEntry}(h:MapFit en clock n)(he:en2.toList.map (·.born)=en.toList.map (·.born)):MapFit en2 clock n:=by
 refine⟨?_,by rw[he];exact h.nd,fun x hx=>?_⟩
 ·have:=congrArg List.length he
  simp only[List.length_map,Array.length_toList]at this;rw[this];exact h.sz
 ·have:x.born∈en2.toList.map (·.born):=List.mem_map.2 ⟨x,hx,rfl⟩
  rw[he]at this;obtain⟨y,hy,e⟩:=List.mem_map.1 this
  have:=h.lt y hy
  omega
theorem MapFit.modify{en:Array MapEntry}(h:MapFit en clock n)(i:Nat)(k v:Value):MapFit (en.modify i fun e=>{ e with key:=k,val:=v }) clock n:=by
 refine h.of_born ?_
 apply List.ext_getElem?
 intro j;simp only[jG,Array.getElem?_toList,Array.getElem?_modify]
 split
 ·cases en[j]?<;>simp
 ·rfl
theorem MapFit.erase{en en2:Array MapEntry}{m:Nat}(h:MapFit en clock n)(he:en2.toList=en.toList.eraseIdx i)(hm:en2.size=m):MapFit en2 clock m:=by
 have hs:en2.toList.Sublist en.toList:=by rw[he];exact List.eraseIdx_sublist ..
 exact⟨hm,h.nd.sublist (hs.map _),fun x hx=>h.lt x (hs.subset hx)⟩
structure MapOk(B0:Nat)(C:Cx)(W:World)(l:Loc)(es:List (AV × AV)):Prop where
 b0:B0<=l.b
 ob:∃(en:Array MapEntry) (clock:Nat),W.heap[l.b]?=some (.map en clock)/\MapFit en clock es.length /\
  ∀(i:Nat) (k v:AV),es[i]?=some (k,v)->Zlj k=true/\∃x:MapEntry,en[i]?=some x/\R C k x.key/\R C v x.val
def ZcV:Obj->Bool
 | .loop _=>true
 | .deferred _=>true
 | _=>false
structure BelowS(B:Nat)(W0 W:World):Prop where
 b:Below B W0 W
 s:∀(k:Nat) (ob:Obj),W0.heap[k]?=some ob->ZcV ob=true->W.heap[k]?=some ob
theorem BelowS.refl(B:Nat)(W:World):BelowS B W W:=⟨.refl _ _,fun _ _ h _=>h⟩
theorem BelowS.trans{B:Nat}{W0 W W':World}(h:BelowS B W0 W)(k:BelowS B W W'):BelowS B W0 W':=⟨h.b.trans k.b,fun i ob hi hs=>k.s i ob (h.s i ob hi hs) hs⟩
theorem BelowS.drew{B:Nat}{W0 W:World}(h:BelowS B W0 W):BelowS B W0 W.drew:=⟨h.b.drew,h.s⟩
theorem BelowS.of_all{B:Nat}{W W':World}(hB:B<=W.heap.size)(h:Below W.heap.size W W'):BelowS B W W' :=
 ⟨h.mono hB,fun k ob hk _=>by
  have hlt:k<W.heap.size:=by
   rcases Nat.lt_or_ge k W.heap.size with h'|h'
   ·exact h'
   ·rw[Array.getElem?_eq_none h']at hk;simp at hk
  rw[h.block k hlt];exact hk⟩
theorem BelowS.alloc{B:Nat}{W0 W:World}(h:BelowS B W0 W)(hB:B<=W.heap.size)(ob:Obj):BelowS B W0 (W.alloc ob) :=
 h.trans (.of_all hB ((Below.refl _ W).alloc (Nat.le_refl _) ob))
theorem BelowS.setCell{B:Nat}{W0 W:World}(h:BelowS B W0 W){p:Addr}(hp:B<=p.block)(u:Value):BelowS B W0 (W.setCell p u) :=
 ⟨h.b.setCell hp u,fun k ob hk hs=>by
  have h1:=h.s k ob hk hs;simp only[World.setCell,Array.getElem?_modify]
  split
  ·rw[h1];cases ob<;>simp_all [ZcV]
  ·exact h1⟩
structure Rel(W0:World)(B0:Bse)(st:St)(ρ:Rho)(W:World):Prop where
 below:BelowS B0 W0 W
 b0:B0.n<=W.heap.size
 yl:ρ.yl=B0.y
 arr:∀lv ix w ver es,st.get lv ix=some (.arr w ver es)->ArrOk B0 (cx st ρ W lv) W (ρ lv ix) w es
 sep:∀lv ix w ver es lv' ix' w' ver' es',st.get lv ix=some (.arr w ver es)->st.get lv' ix'=some (.arr w' ver' es')->¬ (lv=lv'/\ix=ix') ->
  ∀j j',j<(ρ lv ix).c*w->j'<(ρ lv' ix').c*w'->¬ ((ρ lv ix).b=(ρ lv' ix').b/\(ρ lv ix).o+j=(ρ lv' ix').o+j')
 map:∀lv ix es,st.get lv ix=some (.map es)->MapOk B0 (cx st ρ W lv) W (ρ lv ix) es
 msep:∀lv ix es lv' ix' es',st.get lv ix=some (.map es)->st.get lv' ix'=some (.map es')->¬ (lv=lv'/\ix=ix')->(ρ lv ix).b≠(ρ lv' ix').b
structure Ev(st:St)(ρ:Rho)(W:World)(st':St)(ρ':Rho)(W':World):Prop where
 len:st'.A.length=st.A.length
 le:∀m,m<=st.A.length->(cx st ρ W m).le (cx st' ρ' W' m)
 old:∀(lv:Nat) (r:Bool × List Blk),st.A[lv]?=some r->∃r':Bool × List Blk,st'.A[lv]?=some r'/\r'.1=r.1/\(r.1=true->r'=r)
 ro:st'.ro=st.ro
 cur:st.ro=true->st'.L=st.L
 yl:ρ'.yl=ρ.yl
theorem Ev.refl(st:St)(ρ:Rho)(W:World):Ev st ρ W st ρ W:=⟨rfl,fun _ _=>.refl _,fun _ r h=>⟨r,h,rfl,fun _=>rfl⟩,rfl,fun _=>rfl,rfl⟩
theorem Ev.trans{st'':St}{ρ ρ' ρ'':Rho}{W W' W'':World}(h:Ev st ρ W st' ρ' W')(k:Ev st' ρ' W' st'' ρ'' W''):Ev st ρ W st'' ρ'' W'':=by
 refine⟨k.len.trans h.len,fun m hm=>(h.le m hm).trans (k.le m (by rw[h.len];exact hm)),fun lv r hr=>?_,k.ro.trans h.ro,fun hro=>?_,k.yl.trans h.yl⟩
 ·obtain⟨r',h1,h2,h3⟩:=h.old lv r hr
  obtain⟨r'',k1,k2,k3⟩:=k.old lv r' h1
  refine⟨r'',k1,k2.trans h2,fun ht=>?_⟩
  have:=k3 (h2.trans ht)
  rw[this,h3 ht]
 ·rw[k.cur (h.ro.trans hro),h.cur hro]
def inR(l:Loc)(w b o:Nat):Prop:=l.b=b/\l.o<=o/\o<l.o+l.c*w
structure Chg(W0:World)(B0:Bse)(st:St)(ρ:Rho)(W:World)(lv0 ix0:Nat)(blk:Blk)(st':St)(ρ':Rho)(W':World):Prop where
 get0:st'.get lv0 ix0=some blk
 get:∀lv ix,¬ (lv=lv0/\ix=ix0)->st'.get lv ix=st.get lv ix
 rho:∀lv ix,¬ (lv=lv0/\ix=ix0)->ρ' lv ix=ρ lv ix
 len:st'.A.length=st.A.length
 old:∀(lv:Nat) (r:Bool × List Blk),st.A[lv]?=some r->∃r':Bool × List Blk,st'.A[lv]?=some r'/\r'.1=r.1/\(r.1=true->r'=r)
 ro:st'.ro=st.ro
 cur:st.ro=true->st'.L=st.L
 yl:ρ'.yl=ρ.yl
 below:BelowS B0 W0 W'
 size:W.heap.size<=W'.heap.size
 cell:∀b o v,Qb W b o v->(∀w ver es,st.get lv0 ix0=some (.arr w ver es)->¬ inR (ρ lv0 ix0) w b o)->Qb W' b o v
 froz:∀b o,(W.cell? ⟨b,o,none⟩).isSome=true->W'.frozen? ⟨b,o,none⟩=W.frozen? ⟨b,o,none⟩
 maps:∀b en clock,W.heap[b]?=some (.map en clock)->(∀es,st.get lv0 ix0=some (.map es)->b≠(ρ lv0 ix0).b)->W'.heap[b]?=some (.map en clock)
 narr:∀w ver es,blk=.arr w ver es ->
  (st.get lv0 ix0=none\/∃w1 ver1 es1,st.get lv0 ix0=some (.arr w1 ver1 es1)/\ver1<=ver/\(ver=ver1->w=w1/\es1.length<=es.length/\ρ' lv0 ix0=ρ lv0 ix0)) /\
  ∀j,j<(ρ' lv0 ix0).c*w->W.cell? ⟨(ρ' lv0 ix0).b,(ρ' lv0 ix0).o+j,none⟩=none \/
   ∃w1 ver1 es1,st.get lv0 ix0=some (.arr w1 ver1 es1)/\inR (ρ lv0 ix0) w1 (ρ' lv0 ix0).b ((ρ' lv0 ix0).o+j)
 nmap:∀es,blk=.map es->(st.get lv0 ix0=none/\W.heap[(ρ' lv0 ix0).b]?=none)\/((∃es1,st.get lv0 ix0=some (.map es1))/\ρ' lv0 ix0=ρ lv0 ix0)
 spec:∀(k:Nat) (ob:Obj),W.heap[k]?=some ob->ZcV ob=true->W'.heap[k]?=some ob
 flag:blk=.arr 1 0 []->st.get lv0 ix0=none\/st.get lv0 ix0=some (.arr 1 0 [])
section
variable {W0:World}{B0:Bse}{st st':St}{ρ ρ':Rho}{W W':World}{lv0 ix0:Nat}{blk:Blk}
theorem Rel.mem_cell(h:Rel W0 B0 st ρ W){lv:Nat}(hg:st.get lv ix=some (.arr w ver es))(hr:inR (ρ lv ix) w b o):
 (W.cell? ⟨b,o,none⟩).isSome=true:=by
 obtain⟨rfl,h1,h2⟩:=hr
 have:=(h.arr lv ix w ver es hg).mem (o-(ρ lv ix).o) (by omega)
 rw[show (ρ lv ix).o+(o-(ρ lv ix).o)=o by omega]at this
 exact this.2.1
theorem Rel.apart(h:Rel W0 B0 st ρ W){lv lv' ix' w' ver':Nat}(hg:st.get lv ix=some (.arr w ver es))(hg':st.get lv' ix'=some (.arr w' ver' es'))
 {b o:Nat} (hr:inR (ρ lv ix) w b o) (hr':inR (ρ lv' ix') w' b o):lv=lv'/\ix=ix':=by
 obtain⟨hb,h1,h2⟩:=hr;obtain⟨hb',h1',h2'⟩:=hr'
 by_cases hc:lv=lv'/\ix=ix'
 ·exact hc
 ·exact absurd ⟨by rw[hb,hb'],by omega⟩ (h.sep lv ix w ver es lv' ix' w' ver' es' hg hg' hc (o-(ρ lv ix).o) (o-(ρ lv' ix').o) (by omega) (by omega))
theorem Chg.mut(h:Rel W0 B0 st ρ W)(k:Chg W0 B0 st ρ W lv0 ix0 blk st' ρ' W'){v:Value}(hc:Qb W b o v)(hm:Mut st' ρ' b o):Mut st ρ b o:=by
 obtain⟨lv,ix,w,ver,es,hg,hr⟩:=hm
 by_cases hid:lv=lv0/\ix=ix0
 ·obtain⟨rfl,rfl⟩:=hid
  rw[k.get0]at hg;simp only[Option.some.injEq]at hg
  have h1:=(k.narr w ver es hg).2 (o-(ρ' lv ix).o) (by have:=hr;omega)
  obtain⟨rfl,hr1,hr2⟩:=hr
  rw[show (ρ' lv ix).o+(o-(ρ' lv ix).o)=o by omega]at h1
  rcases h1 with h1|⟨w1,ver1,es1,h1,h2⟩
  ·unfold Qb at hc;rw[h1]at hc;simp at hc
  ·exact⟨lv,ix,w1,ver1,es1,h1,h2⟩
 ·rw[k.get lv ix hid]at hg
  rw[k.rho lv ix hid]at hr;exact⟨lv,ix,w,ver,es,hg,hr⟩
theorem Chg.isSome(k:Chg W0 B0 st ρ W lv0 ix0 blk st' ρ' W'){lv:Nat}(hs:(st.get lv ix).isSome=true):(st'.get lv ix).isSome=true:=by
 by_cases hid:lv=lv0/\ix=ix0
 ·obtain⟨rfl,rfl⟩:=hid;rw[k.get0];rfl
 ·rw[k.get lv ix hid];exact hs
theorem Chg.le(h:Rel W0 B0 st ρ W)(k:Chg W0 B0 st ρ W lv0 ix0 blk st' ρ' W')(m:Nat):(cx st ρ W m).le (cx st' ρ' W' m):=by
 refine⟨?_,?_,?_,?_,fun lv l tm q=>⟨q.1,by rw[k.yl];exact q.2⟩⟩
 ·rintro b o v ⟨hc,hm⟩
  refine⟨k.cell b o v hc fun w ver es hg hr=>hm ⟨lv0,ix0,w,ver,es,hg,hr⟩,fun hm'=>hm (k.mut h hc hm')⟩
 ·rintro lv ix ver i o v ⟨h1,h2,h3,h4,h5⟩
  refine⟨h1,k.isSome h2,h3,?_,?_⟩
  ·intro w u es hg
   by_cases hid:lv=lv0/\ix=ix0
   ·obtain⟨rfl,rfl⟩:=hid
    rw[k.get0]at hg;simp only[Option.some.injEq]at hg
    rcases (k.narr w u es hg).1 with hn|⟨w1,ver1,es1,hg1,hle,_⟩
    ·rw[hn]at h2;simp at h2
    ·exact Nat.le_trans (h4 _ _ _ hg1) hle
   ·rw[k.get lv ix hid]at hg;exact h4 _ _ _ hg
  ·intro w es hg
   by_cases hid:lv=lv0/\ix=ix0
   ·obtain⟨rfl,rfl⟩:=hid
    rw[k.get0]at hg;simp only[Option.some.injEq]at hg
    rcases (k.narr w ver es hg).1 with hn|⟨w1,ver1,es1,hg1,hle,heq⟩
    ·rw[hn]at h2;simp at h2
    ·have hv:ver=ver1:=Nat.le_antisymm (h4 _ _ _ hg1) hle
     obtain⟨e1,e2,e3⟩:=heq hv;subst hv;subst e1;rw[e3];exact h5 _ _ hg1
   ·rw[k.get lv ix hid]at hg;rw[k.rho lv ix hid];exact h5 _ _ hg
 ·rintro lv ix ver s n v ⟨h1,h2,h4,a,c,h3,h5⟩
  refine⟨h1,k.isSome h2,?_,a,c,h3,?_⟩
  ·intro w u es hg
   by_cases hid:lv=lv0/\ix=ix0
   ·obtain⟨rfl,rfl⟩:=hid
    rw[k.get0]at hg;simp only[Option.some.injEq]at hg
    rcases (k.narr w u es hg).1 with hn|⟨w1,ver1,es1,hg1,hle,_⟩
    ·rw[hn]at h2;simp at h2
    ·exact Nat.le_trans (h4 _ _ _ hg1) hle
   ·rw[k.get lv ix hid]at hg;exact h4 _ _ _ hg
  ·intro w es hg
   by_cases hid:lv=lv0/\ix=ix0
   ·obtain⟨rfl,rfl⟩:=hid
    rw[k.get0]at hg;simp only[Option.some.injEq]at hg
    rcases (k.narr w ver es hg).1 with hn|⟨w1,ver1,es1,hg1,hle,heq⟩
    ·rw[hn]at h2;simp at h2
    ·have hv:ver=ver1:=Nat.le_antisymm (h4 _ _ _ hg1) hle
     obtain⟨e1,e2,e3⟩:=heq hv;subst hv;subst e1;obtain⟨g1,g2,g3⟩:=h5 _ _ hg1
     rw[e3];exact⟨by omega,g2,g3⟩
   ·rw[k.get lv ix hid]at hg;rw[k.rho lv ix hid];exact h5 _ _ hg
 ·rintro lv ix v ⟨h1,h2,r,h3,h5⟩
  refine⟨h1,k.isSome h2,r,h3,?_⟩;intro es hg
  by_cases hid:lv=lv0/\ix=ix0
  ·obtain⟨rfl,rfl⟩:=hid
   rw[k.get0]at hg;simp only[Option.some.injEq]at hg
   rcases k.nmap es hg with⟨hn,_⟩|⟨⟨es1,hg1⟩,he⟩
   ·rw[hn]at h2;simp at h2
   ·rw[he];exact h5 _ hg1
  ·rw[k.get lv ix hid]at hg;rw[k.rho lv ix hid];exact h5 _ hg
theorem Chg.ev(h:Rel W0 B0 st ρ W)(k:Chg W0 B0 st ρ W lv0 ix0 blk st' ρ' W'):Ev st ρ W st' ρ' W' :=
 ⟨k.len,fun m _=>k.le h m,k.old,k.ro,k.cur,k.yl⟩
theorem Chg.rel(h:Rel W0 B0 st ρ W)(k:Chg W0 B0 st ρ W lv0 ix0 blk st' ρ' W')
 (ha:∀w ver es,blk=.arr w ver es->ArrOk B0 (cx st' ρ' W' lv0) W' (ρ' lv0 ix0) w es) (hm:∀es,blk=.map es->MapOk B0 (cx st' ρ' W' lv0) W' (ρ' lv0 ix0) es) :
 Rel W0 B0 st' ρ' W':=by
 have notIn:∀lv ix w ver es,st.get lv ix=some (.arr w ver es)->¬ (lv=lv0/\ix=ix0)->∀b o,inR (ρ lv ix) w b o ->
  ∀w1 ver1 es1,st.get lv0 ix0=some (.arr w1 ver1 es1)->¬ inR (ρ lv0 ix0) w1 b o:=fun lv ix w ver es hg hid b o hr w1 ver1 es1 hg1 hr1=>hid (h.apart hg hg1 hr hr1)
 refine⟨k.below,Nat.le_trans h.b0 k.size,k.yl.trans h.yl,?_,?_,?_,?_⟩
 ·intro lv ix w ver es hg
  by_cases hid:lv=lv0/\ix=ix0
  ·obtain⟨rfl,rfl⟩:=hid
   rw[k.get0]at hg;simp only[Option.some.injEq]at hg;exact ha w ver es hg
  ·rw[k.get lv ix hid]at hg
   rw[k.rho lv ix hid];obtain⟨a1,a2,a3⟩:=h.arr lv ix w ver es hg;refine⟨a1,?_,?_⟩
   ·intro i e he
    obtain⟨x,hx1,hx2,hx3⟩:=a2 i e he;refine⟨x,hx1.mono (k.le h lv),hx2,?_⟩;intro j v hv
    have hj:j<x.cells.size:=by
     rcases Nat.lt_or_ge j x.cells.size with h'|h'
     ·exact h'
     ·rw[Array.getElem?_eq_none h']at hv;simp at hv
    have hi:i<es.length:=by
     rcases Nat.lt_or_ge i es.length with h'|h'
     ·exact h'
     ·rw[List.getElem?_eq_none h']at he;simp at he
    have hlt:i*w+j<(ρ lv ix).c*w:=by
     have:(i+1)*w<=(ρ lv ix).c*w:=Nat.mul_le_mul_right w (by omega)
     rw[Nat.add_mul,Nat.one_mul]at this;omega
    exact k.cell _ _ _ (hx3 j v hv) (notIn lv ix w ver es hg hid _ _ ⟨rfl,by omega,by omega⟩)
   ·intro j hj
    obtain⟨m1,m2,m3⟩:=a3 j hj;obtain⟨v,hv⟩:=Option.isSome_iff_exists.1 m2
    have:=k.cell _ _ v hv (notIn lv ix w ver es hg hid _ _ ⟨rfl,by omega,by omega⟩)
    unfold Qb at this
    exact⟨m1,by rw[this];rfl,by rw[k.froz _ _ m2];exact m3⟩
 ·intro lv ix w ver es lv' ix' w' ver' es' hg hg' hne j j' hj hj' hcl
  by_cases hid:lv=lv0/\ix=ix0
  ·by_cases hid':lv'=lv0/\ix'=ix0
   ·exact hne ⟨by omega,by omega⟩
   ·obtain⟨rfl,rfl⟩:=hid
    rw[k.get0]at hg;simp only[Option.some.injEq]at hg;rw[k.get lv' ix' hid']at hg';rw[k.rho lv' ix' hid']at hj' hcl
    rcases (k.narr w ver es hg).2 j hj with h1|⟨w1,ver1,es1,h1,h2⟩
    ·have:=h.mem_cell hg' (b:=(ρ lv' ix').b) (o:=(ρ lv' ix').o+j') ⟨rfl,by omega,by omega⟩
     rw[<- hcl.1,<- hcl.2,h1]at this;simp at this
    ·have:=h.apart h1 hg' h2 ⟨hcl.1.symm,by omega,by omega⟩
     exact hid' ⟨this.1.symm,this.2.symm⟩
  ·rw[k.get lv ix hid]at hg
   rw[k.rho lv ix hid]at hj hcl
   by_cases hid':lv'=lv0/\ix'=ix0
   ·obtain⟨rfl,rfl⟩:=hid'
    rw[k.get0]at hg';simp only[Option.some.injEq]at hg'
    rcases (k.narr w' ver' es' hg').2 j' hj' with h1|⟨w1,ver1,es1,h1,h2⟩
    ·have:=h.mem_cell hg (b:=(ρ lv ix).b) (o:=(ρ lv ix).o+j) ⟨rfl,by omega,by omega⟩
     rw[hcl.1,hcl.2,h1]at this;simp at this
    ·have:=h.apart hg h1 ⟨hcl.1,by omega,by omega⟩ h2
     exact hid this
   ·rw[k.get lv' ix' hid']at hg'
    rw[k.rho lv' ix' hid']at hj' hcl;exact h.sep lv ix w ver es lv' ix' w' ver' es' hg hg' hne j j' hj hj' hcl
 ·intro lv ix es hg
  by_cases hid:lv=lv0/\ix=ix0
  ·obtain⟨rfl,rfl⟩:=hid
   rw[k.get0]at hg;simp only[Option.some.injEq]at hg;exact hm es hg
  ·rw[k.get lv ix hid]at hg
   rw[k.rho lv ix hid];obtain⟨m1,en,clock,m2,m3,m4⟩:=h.map lv ix es hg
   refine⟨m1,en,clock,k.maps _ _ _ m2 fun es1 hg1=>h.msep lv ix es lv0 ix0 es1 hg hg1 hid,m3,fun i kk v hk=>?_⟩
   obtain⟨n1,x,n2,n3,n4⟩:=m4 i kk v hk;exact⟨n1,x,n2,n3.mono (k.le h lv),n4.mono (k.le h lv)⟩
 ·intro lv ix es lv' ix' es' hg hg' hne
  by_cases hid:lv=lv0/\ix=ix0
  ·by_cases hid':lv'=lv0/\ix'=ix0
   ·exact absurd ⟨by omega,by omega⟩ hne
   ·obtain⟨rfl,rfl⟩:=hid
    rw[k.get0]at hg;simp only[Option.some.injEq]at hg;rw[k.get lv' ix' hid']at hg';rw[k.rho lv' ix' hid']
    rcases k.nmap es hg with⟨_,hn⟩|⟨⟨es1,hg1⟩,he⟩
    ·obtain⟨_,en,clock,m2,_⟩:=h.map lv' ix' es' hg'
     intro e;rw[<- e,hn]at m2;simp at m2
    ·rw[he];exact h.msep lv ix es1 lv' ix' es' hg1 hg' hne
  ·rw[k.get lv ix hid]at hg
   rw[k.rho lv ix hid]
   by_cases hid':lv'=lv0/\ix'=ix0
   ·obtain⟨rfl,rfl⟩:=hid'
    rw[k.get0]at hg';simp only[Option.some.injEq]at hg'
    rcases k.nmap es' hg' with⟨_,hn⟩|⟨⟨es1,hg1⟩,he⟩
    ·obtain⟨_,en,clock,m2,_⟩:=h.map lv ix es hg
     intro e;rw[e,hn]at m2;simp at m2
    ·rw[he];exact h.msep lv ix es lv' ix' es1 hg hg1 hne
   ·rw[k.get lv' ix' hid']at hg'
    rw[k.rho lv' ix' hid'];exact h.msep lv ix es lv' ix' es' hg hg' hne
end
structure Sh(st:St)(lv0 ix0:Nat)(blk:Blk)(st':St):Prop where
 get0:st'.get lv0 ix0=some blk
 get:∀lv ix,¬ (lv=lv0/\ix=ix0)->st'.get lv ix=st.get lv ix
 len:st'.A.length=st.A.length
 old:∀(lv:Nat) (r:Bool × List Blk),st.A[lv]?=some r->∃r':Bool × List Blk,st'.A[lv]?=some r'/\r'.1=r.1/\(r.1=true->r'=r)
 ro:st'.ro=st.ro
 cur:st.ro=true->st'.L=st.L
theorem Sh.of_put{lv0 ix0:Nat}(h:st.put lv0 ix0 blk=some st')(hb:vis (some blk)=some blk:=by rfl):Sh st lv0 ix0 blk st':=by
 unfold St.put at h
 split at h
 ·rename_i hl
  split at h
  ·simp at h
  ·rename_i hro
   split at h
   ·rename_i hix
    simp only[Option.some.injEq]at h;subst h
    refine⟨?_,?_,rfl,fun lv r hr=>⟨r,hr,rfl,fun _=>rfl⟩,rfl,fun hr=>absurd hr hro⟩
    ·simp[St.get,hl,hix,hb]
    ·intro lv ix hne
     simp only[St.get]
     split
     ·rename_i h2
      rw[jS]
      intro he;exact hne ⟨by omega,he.symm⟩
     ·rfl
   ·simp at h
 ·rename_i hl
  cases hA:st.A[lv0]? with
  | none=>rw[hA]at h;simp[ZIR]at h
  | some r =>
   obtain⟨ro,bs⟩:=r;rw[hA]at h
   cases ro with
   | true=>simp[ZIR]at h
   | false =>
    simp only[ZIR]at h
    split at h
    ·rename_i hix
     simp only[Option.some.injEq]at h;subst h
     have hlt:lv0<st.A.length:=by
      rcases Nat.lt_or_ge lv0 st.A.length with h'|h'
      ·exact h'
      ·rw[List.getElem?_eq_none h']at hA;simp at hA
     refine⟨?_,?_,by simp,?_,rfl,fun _=>rfl⟩
     ·simp[St.get,hl,hlt,hix,hb]
     ·intro lv ix hne
      simp only[St.get,List.length_set]
      split
      ·rfl
      ·by_cases h2:lv0=lv
       ·subst h2
        simp only[List.getElem?_set_self hlt,hA,Option.bind_some];rw[jS];intro he;exact hne ⟨rfl,he.symm⟩
       ·rw[jS h2]
     ·intro lv r hr
      by_cases h2:lv0=lv
      ·subst h2
       rw[hA]at hr;simp only[Option.some.injEq]at hr;subst hr
       exact⟨_,List.getElem?_set_self hlt,rfl,fun h=>by simp at h⟩
      ·exact⟨r,by simp only;rw[jS h2];exact hr,rfl,fun _=>rfl⟩
    ·simp at h
theorem Sh.of_new(h:st.new blk=some (i,st'))(hb:vis (some blk)=some blk:=by rfl):Sh st st.A.length i blk st'/\st.get st.A.length i=none:=by
 unfold St.new at h
 split at h
 ·simp at h
 ·rename_i hro
  simp only[Option.some.injEq,jP]at h;obtain⟨rfl,rfl⟩:=h
  refine⟨⟨by simp[St.get,hb],?_,rfl,fun lv r hr=>⟨r,hr,rfl,fun _=>rfl⟩,rfl,fun hr=>absurd hr hro⟩,by simp[St.get,vis]⟩
  intro lv ix hne;simp only[St.get]
  split
  ·rename_i h2
   by_cases h3:ix<st.L.length
   ·rw[jL h3]
   ·have:¬ ix=st.L.length:=fun he=>hne ⟨h2,he⟩
    rw[List.getElem?_eq_none (by simp;omega),List.getElem?_eq_none (by omega)]
  ·rfl
structure News(st:St)(b:Blk)(i:Nat)(st':St):Prop where
 sh:Sh st st.A.length i b st'
 none:st.get st.A.length i=Option.none
theorem News.of_new(h:st.new blk=some (i,st'))(hb:vis (some blk)=some blk:=by rfl):News st blk i st':=⟨(Sh.of_new h hb).1,(Sh.of_new h hb).2⟩
theorem News.of_fill(hro:st.ro=false)(h:st.L[i]?=some (.hole j))(hb:vis (some blk)=some blk:=by rfl):News st blk i { st with L:=st.L.set i blk }:=by
 have hlt:i<st.L.length:=by
  rcases Nat.lt_or_ge i st.L.length with h'|h'
  ·exact h'
  ·rw[List.getElem?_eq_none h']at h;simp at h
 refine⟨⟨by simp[St.get,hlt,hb],?_,rfl,fun lv r hr=>⟨r,hr,rfl,fun _=>rfl⟩,rfl,fun hr=>by rw[hro]at hr;simp at hr⟩,by simp[St.get,h,vis]⟩
 intro lv ix' hne;simp only[St.get]
 split
 ·rename_i h2
  rw[jS];intro he;exact hne ⟨h2,he.symm⟩
 ·rfl
theorem Sh.of_kill{b:Blk}(hro:st.ro=false)(h:st.L[ix]?=some b):Sh st st.A.length ix .dead { st with L:=st.L.set ix .dead }:=by
 have hlt:ix<st.L.length:=by
  rcases Nat.lt_or_ge ix st.L.length with h'|h'
  ·exact h'
  ·rw[List.getElem?_eq_none h']at h;simp at h
 refine⟨by simp[St.get,hlt,vis],?_,rfl,fun lv r hr=>⟨r,hr,rfl,fun _=>rfl⟩,rfl,fun hr=>by rw[hro]at hr;simp at hr⟩
 intro lv ix' hne;simp only[St.get]
 split
 ·rename_i h2
  rw[jS];intro he;exact hne ⟨h2,he.symm⟩
 ·rfl
def upd(ρ:Rho)(lv0 ix0:Nat)(l:Loc):Rho:=⟨fun lv ix=>if lv=lv0/\ix=ix0 then l else ρ lv ix,ρ.yl⟩
theorem upd_same(ρ:Rho)(lv0 ix0:Nat)(l:Loc):upd ρ lv0 ix0 l lv0 ix0=l:=by simp[upd]
theorem ZW5(ρ:Rho)(lv0 ix0:Nat)(l:Loc){lv:Nat}(h:¬ (lv=lv0/\ix=ix0)):upd ρ lv0 ix0 l lv ix=ρ lv ix:=by simp only[upd,if_neg h]
theorem ZQ2{W:World}{v:Value}(h:Qb W b o v):b<W.heap.size:=World.block_lt_of_cell? (a:=⟨b,o,none⟩) (w:=W) h
theorem ZA8{W:World}{v:Value}(h:Qb W b o v):Qb (W.alloc ob) b o v:=by
 unfold Qb;rw[World.cell?_alloc_lt (h:=ZQ2 h)];exact h
theorem ZCK{W:World}(h:(W.cell? ⟨b,o,none⟩).isSome=true):(W.alloc ob).frozen? ⟨b,o,none⟩=W.frozen? ⟨b,o,none⟩:=by
 obtain⟨v,hv⟩:=Option.isSome_iff_exists.1 h
 have:=ZQ2 (W:=W) hv
 exact World.frozen?_alloc_old W ob ⟨b,o,none⟩ (by simp;omega)
theorem ZAE{W:World}{x:Obj}(h:W.heap[b]?=some x):(W.alloc ob).heap[b]?=some x:=by
 have hlt:b<W.heap.size:=by
  rcases Nat.lt_or_ge b W.heap.size with h'|h'
  ·exact h'
  ·rw[Array.getElem?_eq_none h']at h;simp at h
 rw[Below.heap_alloc W ob b hlt];exact h
theorem ZjV{W:World}(h:W.heap.size<=b):W.cell? ⟨b,o,none⟩=none:=by
 unfold World.cell?;rw[Array.getElem?_eq_none h]
section
variable {W0:World}{B0:Bse}{st st':St}{ρ:Rho}{W:World}
theorem Rel.drew(h:Rel W0 B0 st ρ W):Rel W0 B0 st ρ W.drew :=
 ⟨h.below.drew,h.b0,h.yl,fun lv ix w ver es hg=>⟨(h.arr lv ix w ver es hg).len,(h.arr lv ix w ver es hg).el,(h.arr lv ix w ver es hg).mem⟩,h.sep,
  fun lv ix es hg=>⟨(h.map lv ix es hg).b0,(h.map lv ix es hg).ob⟩,h.msep⟩
theorem Ev.drew(st:St)(ρ:Rho)(W:World):Ev st ρ W st ρ W.drew:=⟨rfl,fun _ _=>.refl _,fun _ r h=>⟨r,h,rfl,fun _=>rfl⟩,rfl,fun _=>rfl,rfl⟩
structure Goes(W0:World)(B0:Bse)(st:St)(ρ:Rho)(W:World)(st':St)(ρ':Rho)(W':World):Prop where
 rel:Rel W0 B0 st' ρ' W'
 ev:Ev st ρ W st' ρ' W'
theorem Goes.refl(h:Rel W0 B0 st ρ W):Goes W0 B0 st ρ W st ρ W:=⟨h,.refl _ _ _⟩
theorem Goes.trans{st'':St}{ρ' ρ'':Rho}{W' W'':World}(h:Goes W0 B0 st ρ W st' ρ' W')(k:Goes W0 B0 st' ρ' W' st'' ρ'' W''):Goes W0 B0 st ρ W st'' ρ'' W'' :=
 ⟨k.rel,h.ev.trans k.ev⟩
theorem Goes.drew(h:Rel W0 B0 st ρ W):Goes W0 B0 st ρ W st ρ W.drew:=⟨h.drew,.drew _ _ _⟩
theorem Zbx(h:Rel W0 B0 st ρ W){cs:Array Value}{elem:TypeId}
 (hn:News st (.arr w ver es) i st') (hx:RL (cx st ρ W st.A.length) es xs) (hw:∀x∈xs,x.cells.size=w) (hc:es.length<=c) (hcs:c*w<=cs.size)
 (hl:∀i x,xs[i]?=some x->∀j v,x.cells[j]?=some v->cs[i*w+j]?=some v) :
 Goes W0 B0 st ρ W st' (upd ρ st.A.length i ⟨W.heap.size,0,c⟩) (W.alloc (.cells cs elem)) /\
  ∀m,st.A.length<=m->(cx st' (upd ρ st.A.length i ⟨W.heap.size,0,c⟩) (W.alloc (.cells cs elem)) m).ref st.A.length i ver 0 es.length (.slice (some ⟨W.heap.size,0,none⟩) es.length c) /\
   ∀k o,(cx st' (upd ρ st.A.length i ⟨W.heap.size,0,c⟩) (W.alloc (.cells cs elem)) m).ptr st.A.length i ver k o (.pointer (some ⟨W.heap.size,k*w+o,none⟩)):=by
 obtain⟨sh,hnone⟩:=hn
 have k:Chg W0 B0 st ρ W st.A.length i (.arr w ver es) st' (upd ρ st.A.length i ⟨W.heap.size,0,c⟩) (W.alloc (.cells cs elem)):=by
  refine⟨sh.get0,sh.get,fun lv ix hne=>ZW5 _ _ _ _ hne,sh.len,sh.old,sh.ro,sh.cur,rfl,h.below.alloc h.b0 _,by simp,fun b o v hc _=>ZA8 hc,fun b o hs=>ZCK hs,
   fun b en clock hb _=>ZAE hb,?_,fun es he=>by simp at he,fun k ob hk _=>ZAE hk,fun _=>.inl hnone⟩
  intro w' ver' es' he;simp only[Blk.arr.injEq]at he;obtain⟨rfl,rfl,rfl⟩:=he
  refine⟨.inl hnone,fun j hj=>.inl ?_⟩
  rw[upd_same];exact ZjV (Nat.le_refl _)
 have hle:=k.le h st.A.length
 refine⟨⟨k.rel h ?_ (fun es he=>by simp at he),k.ev h⟩,?_⟩
 ·intro w' ver' es' he
  simp only[Blk.arr.injEq]at he;obtain⟨rfl,rfl,rfl⟩:=he;rw[upd_same];refine⟨hc,?_,?_⟩
  ·intro i' e he
   obtain⟨x,hx1,hx2⟩:=hx.get he;refine⟨x,hx2.mono hle,hw x (jM hx1),?_⟩;intro j v hv
   have:=hl i' x hx1 j v hv
   unfold Qb;simp only[Nat.zero_add];rw[World.cell?_alloc_new];exact this
  ·intro j hj
   have hjs:j<cs.size:=by simp only at hj;omega
   refine⟨h.b0,?_,?_⟩
   ·simp only[Nat.zero_add];rw[World.cell?_alloc_new,Array.getElem?_eq_getElem hjs];rfl
   ·simp only[Nat.zero_add];exact World.frozen?_alloc_new _ _ _ _
 ·intro m hm
  refine⟨⟨hm,by rw[sh.get0];rfl,?_,_,_,rfl,?_⟩,fun k o=>⟨hm,by rw[sh.get0];rfl,⟨_,rfl⟩,?_,?_⟩⟩
  ·intro w' u es' hg;rw[sh.get0]at hg;simp only[Option.some.injEq,Blk.arr.injEq]at hg;omega
  ·intro w' es' hg;rw[sh.get0]at hg;simp only[Option.some.injEq,Blk.arr.injEq]at hg
   obtain⟨rfl,_,rfl⟩:=hg;rw[upd_same];simp
  ·intro w' u es' hg;rw[sh.get0]at hg;simp only[Option.some.injEq,Blk.arr.injEq]at hg;omega
  ·intro w' es' hg;rw[sh.get0]at hg;simp only[Option.some.injEq,Blk.arr.injEq]at hg
   obtain⟨rfl,_,rfl⟩:=hg;rw[upd_same];simp
theorem ZjW(h:Rel W0 B0 st ρ W)(hn:News st (.arr w 0 []) i st')(a:Option Addr):
 Goes W0 B0 st ρ W st' (upd ρ st.A.length i ⟨0,0,0⟩) W /\
  ∀m,st.A.length<=m->(cx st' (upd ρ st.A.length i ⟨0,0,0⟩) W m).ref st.A.length i 0 0 0 (.slice a 0 0):=by
 obtain⟨sh,hnone⟩:=hn
 have k:Chg W0 B0 st ρ W st.A.length i (.arr w 0 []) st' (upd ρ st.A.length i ⟨0,0,0⟩) W:=by
  refine⟨sh.get0,sh.get,fun lv ix hne=>ZW5 _ _ _ _ hne,sh.len,sh.old,sh.ro,sh.cur,rfl,h.below,Nat.le_refl _,fun b o v hc _=>hc,fun b o hs=>rfl,
   fun b en clock hb _=>hb,?_,fun es he=>by simp at he,fun k ob hk _=>hk,fun _=>.inl hnone⟩
  intro w' ver' es' he;simp only[Blk.arr.injEq]at he;obtain⟨rfl,rfl,rfl⟩:=he
  refine⟨.inl hnone,fun j hj=>?_⟩
  rw[upd_same]at hj;simp at hj
 refine⟨⟨k.rel h ?_ (fun es he=>by simp at he),k.ev h⟩,?_⟩
 ·intro w' ver' es' he
  simp only[Blk.arr.injEq]at he;obtain⟨rfl,rfl,rfl⟩:=he;rw[upd_same]
  exact⟨Nat.le_refl _,fun i e he=>by simp at he,fun j hj=>by simp at hj⟩
 ·intro m hm
  refine⟨hm,by rw[sh.get0];rfl,?_,_,_,rfl,?_⟩
  ·intro w' u es' hg;rw[sh.get0]at hg;simp only[Option.some.injEq,Blk.arr.injEq]at hg;omega
  ·intro w' es' hg;rw[sh.get0]at hg;simp only[Option.some.injEq,Blk.arr.injEq]at hg
   obtain⟨rfl,_,rfl⟩:=hg;rw[upd_same];simp
theorem Zul(h:Rel W0 B0 st ρ W)(hn:News st (.map []) i st'):
 Goes W0 B0 st ρ W st' (upd ρ st.A.length i ⟨W.heap.size,0,0⟩) (W.alloc (.map #[] 0)) /\
  ∀m,st.A.length<=m->(cx st' (upd ρ st.A.length i ⟨W.heap.size,0,0⟩) (W.alloc (.map #[] 0)) m).map st.A.length i (.map (some W.heap.size)):=by
 obtain⟨sh,hnone⟩:=hn
 have hnew:(W.alloc (.map #[] 0)).heap[W.heap.size]?=some (.map #[] 0):=by show (W.heap.push _)[_]?=_;simp
 have k:Chg W0 B0 st ρ W st.A.length i (.map []) st' (upd ρ st.A.length i ⟨W.heap.size,0,0⟩) (W.alloc (.map #[] 0)):=by
  refine⟨sh.get0,sh.get,fun lv ix hne=>ZW5 _ _ _ _ hne,sh.len,sh.old,sh.ro,sh.cur,rfl,h.below.alloc h.b0 _,by simp,fun b o v hc _=>ZA8 hc,fun b o hs=>ZCK hs,
   fun b en clock hb _=>ZAE hb,fun w ver es he=>by simp at he,fun es he=>.inl ⟨hnone,?_⟩,fun k ob hk _=>ZAE hk,fun e=>by simp at e⟩
  rw[upd_same];simp
 refine⟨⟨k.rel h (fun w ver es he=>by simp at he) ?_,k.ev h⟩,?_⟩
 ·intro es he
  simp only[Blk.map.injEq]at he;subst he;rw[upd_same]
  exact⟨h.b0,#[],0,hnew,.nil 0,fun i k v he=>by simp at he⟩
 ·intro m hm
  exact⟨hm,by rw[sh.get0];rfl,_,rfl,fun es hg=>by rw[upd_same]⟩
theorem Zly(h:Rel W0 B0 st ρ W)(hro:st.ro=false){b:Blk}(hb:st.L[ix]?=some b):
 Goes W0 B0 st ρ W { st with L:=st.L.set ix .dead } ρ W:=by
 have sh:=Sh.of_kill hro hb
 have k:Chg W0 B0 st ρ W st.A.length ix .dead { st with L:=st.L.set ix .dead } ρ W :=
  ⟨sh.get0,sh.get,fun lv ix hne=>rfl,sh.len,sh.old,sh.ro,sh.cur,rfl,h.below,Nat.le_refl _,fun b o v hc _=>hc,fun b o hs=>rfl,
   fun b en clock hb _=>hb,fun w ver es he=>by simp at he,fun es he=>by simp at he,fun k ob hk _=>hk,fun e=>by simp at e⟩
 exact⟨k.rel h (fun w ver es he=>by simp at he) (fun es he=>by simp at he),k.ev h⟩
theorem Qx{W:World}{b' o':Nat}{vs:List Value}{v:Value}(h:Qb W b' o' v)(hn:¬ (b'=b/\o<=o'/\o'<o+vs.length)):Qb (W.setCells b o vs) b' o' v:=by
 induction vs generalizing o W with
 | nil=>exact h
 | cons x vs ih =>
  rw[World.setCells];refine ih ?_ ?_
  ·unfold Qb
   rw[World.cell?_setCell_other]
   ·exact h
   ·intro he;simp only[Addr.mk.injEq]at he;exact hn ⟨he.1.symm,by omega,by simp;omega⟩
  ·rintro⟨h1,h2,h3⟩;exact hn ⟨h1,by omega,by simp;omega⟩
theorem ZAQ{W:World}{vs:List Value}(hs:∀j,j<vs.length->(W.cell? ⟨b,o+j,none⟩).isSome=true){v:Value}(hv:vs[j]?=some v):
 Qb (W.setCells b o vs) b (o+j) v:=by
 induction vs generalizing o W j with
 | nil=>simp at hv
 | cons x vs ih =>
  rw[World.setCells]
  obtain⟨u,hu⟩:=Option.isSome_iff_exists.1 (hs 0 (by simp))
  simp only[Nat.add_zero]at hu
  cases j with
  | zero =>
   simp only[List.getElem?_cons_zero,Option.some.injEq]at hv;subst hv;refine Qx (World.cell?_setCell_same _ _ _ hu) ?_
   rintro⟨_,h2,_⟩;omega
  | succ j =>
   have:=ih (W:=W.setCell ⟨b,o,none⟩ x) (o:=o+1) (j:=j) (fun i hi=>by
    rw[World.cell?_setCell_other _ _ _ _ (by simp;omega)]
    have:=hs (i+1) (by simp;omega)
    rwa [show o+(i+1)=o+1+i by omega]at this) (by simpa using hv)
   rwa [show o+(j+1)=o+1+j by omega]
theorem ZBQ(b:Nat):∀(vs:List Value) (o:Nat) (w:World),(w.setCells b o vs).heap.size=w.heap.size
 | [],_,_=>rfl
 | v::r,o,w=>by rw[World.setCells,ZBQ b r];simp
theorem ZBR(b:Nat){k:Nat}{en:Array MapEntry}{clock:Nat}:∀(vs:List Value) (o:Nat) (w:World),w.heap[k]?=some (.map en clock)->(w.setCells b o vs).heap[k]?=some (.map en clock)
 | [],_,_,h=>h
 | v::r,o,w,h=>by
  rw[World.setCells];refine ZBR b r (o+1) _ ?_;simp only[World.setCell,Array.getElem?_modify]
  split
  ·rw[h];rfl
  ·exact h
theorem Je{B:Nat}{a:World}(b:Nat):∀(vs:List Value) (o:Nat) (w:World),BelowS B a w->(vs=[]\/B<=b)->BelowS B a (w.setCells b o vs)
 | [],_,_,h,_=>h
 | v::r,o,w,h,hb=>by
  rw[World.setCells]
  have hb':B<=b:=hb.resolve_left (by simp)
  exact Je b r (o+1) _ (h.setCell (p:=⟨b,o,none⟩) hb' v) (.inr hb')
theorem Zqt(h:Rel W0 B0 st ρ W){lv:Nat}{vs:List Value}(hg:st.get lv ix=some (.arr w ver es))
 (hp:st.put lv ix (.arr w ver es')=some st') (hlen:es'.length=es.length) (ho:o+vs.length<=(ρ lv ix).c*w)
 (hel:∀i e,es'[i]?=some e->(es[i]?=some e/\(i*w+w<=o\/o+vs.length<=i*w)) \/
  ∃x,R (cx st ρ W lv) e x/\x.cells.size=w/\∀j v,x.cells[j]?=some v ->
   (o<=i*w+j/\vs[i*w+j-o]?=some v)\/((i*w+j<o\/o+vs.length<=i*w+j)/\Qb W (ρ lv ix).b ((ρ lv ix).o+(i*w+j)) v)) :
 Goes W0 B0 st ρ W st' ρ (W.setCells (ρ lv ix).b ((ρ lv ix).o+o) vs):=by
 have sh:=Sh.of_put hp;obtain⟨a1,a2,a3⟩:=h.arr lv ix w ver es hg
 have hsome:∀j,j<vs.length->(W.cell? ⟨(ρ lv ix).b,(ρ lv ix).o+o+j,none⟩).isSome=true:=by
  intro j hj
  have:=(a3 (o+j) (by omega)).2.1
  rwa [show (ρ lv ix).o+(o+j)=(ρ lv ix).o+o+j by omega]at this
 have hb0:vs=[]\/B0<=(ρ lv ix).b:=by
  cases vs with
  | nil=>exact .inl Y
  | cons v vs=>exact .inr (a3 o (by simp at ho;omega)).1
 have k:Chg W0 B0 st ρ W lv ix (.arr w ver es') st' ρ (W.setCells (ρ lv ix).b ((ρ lv ix).o+o) vs):=by
  refine⟨sh.get0,sh.get,fun _ _ _=>rfl,sh.len,sh.old,sh.ro,sh.cur,rfl,Je _ _ _ _ h.below hb0,by rw[ZBQ];exact Nat.le_refl _,?_,fun b o' hs=>World.frozen?_setCells _ _ _ _ _,
   fun b en clock hb _=>ZBR _ _ _ _ hb,?_,fun es he=>by simp at he,fun k ob hk hs=>(Je (B:=0) _ _ _ _ (.refl _ _) (.inr (Nat.zero_le _))).s k ob hk hs,fun e=>.inr (by simp only[Blk.arr.injEq]at e;obtain⟨e1,e2,e3⟩:=e;have e4:es=[]:=List.length_eq_zero_iff.1 (by rw[<- hlen,e3];rfl);rw[hg,e1,e2,e4])⟩
  ·intro b o' v hc hn
   refine Qx hc ?_
   rintro⟨rfl,h2,h3⟩
   exact hn w ver es hg ⟨rfl,by omega,by omega⟩
  ·intro w' ver' es1 he
   simp only[Blk.arr.injEq]at he;obtain⟨rfl,rfl,rfl⟩:=he
   exact⟨.inr ⟨w,ver,es,hg,Nat.le_refl _,fun _=>⟨rfl,by omega,rfl⟩⟩,fun j hj=>.inr ⟨w,ver,es,hg,rfl,by omega,by omega⟩⟩
 refine⟨k.rel h ?_ (fun es he=>by simp at he),k.ev h⟩
 intro w' ver' es1 he;simp only[Blk.arr.injEq]at he;obtain⟨rfl,rfl,rfl⟩:=he
 refine⟨by omega,?_,?_⟩
 ·intro i e he
  rcases hel i e he with⟨he',hout⟩|⟨x,hx1,hx2,hx3⟩
  ·obtain⟨x,hx1,hx2,hx3⟩:=a2 i e he'
   refine⟨x,hx1.mono (k.le h lv),hx2,?_⟩;intro j v hv
   have hj:j<x.cells.size:=by
    rcases Nat.lt_or_ge j x.cells.size with h'|h'
    ·exact h'
    ·rw[Array.getElem?_eq_none h']at hv;simp at hv
   refine Qx (hx3 j v hv) ?_
   rintro⟨_,h2,h3⟩;omega
  ·refine⟨x,hx1.mono (k.le h lv),hx2,?_⟩
   intro j v hv
   rcases hx3 j v hv with⟨h1,h2⟩|⟨h1,h2⟩
   ·have:=ZAQ (W:=W) (b:=(ρ lv ix).b) (o:=(ρ lv ix).o+o) hsome h2
    rwa [show (ρ lv ix).o+o+(i*w+j-o)=(ρ lv ix).o+i*w+j by omega]at this
   ·rw[show (ρ lv ix).o+(i*w+j)=(ρ lv ix).o+i*w+j by omega]at h2
    refine Qx h2 ?_
    rintro⟨_,h3,h4⟩;omega
 ·intro j hj
  obtain⟨m1,m2,m3⟩:=a3 j hj
  refine⟨m1,?_,by rw[World.frozen?_setCells];exact m3⟩
  by_cases hin:o<=j/\j<o+vs.length
  ·have hlt:j-o<vs.length:=by omega
   have:=ZAQ (W:=W) (b:=(ρ lv ix).b) (o:=(ρ lv ix).o+o) hsome (jE hlt)
   rw[show (ρ lv ix).o+o+(j-o)=(ρ lv ix).o+j by omega]at this
   unfold Qb at this;rw[this];rfl
  ·obtain⟨u,hu⟩:=Option.isSome_iff_exists.1 m2
   have:Qb (W.setCells (ρ lv ix).b ((ρ lv ix).o+o) vs) (ρ lv ix).b ((ρ lv ix).o+j) u:=Qx hu (by rintro⟨_,h3,h4⟩;omega)
   unfold Qb at this;rw[this];rfl
end
def Zv(xs:List Value):List Value:=xs.flatMap fun x=>x.cells.toList
theorem Xc(h:∀x∈xs,x.cells.size=w):(Zv xs).length=xs.length*w:=by
 induction xs with
 | nil=>simp[Zv]
 | cons x xs ih =>
  have ih:=ih (fun y hy=>h y (by simp[hy]))
  have hx:=h x (by simp)
  simp only[Zv,List.flatMap_cons,List.length_append,List.length_cons,Array.length_toList]at ih ⊢;rw[ih,hx,Nat.add_mul];omega
theorem ZCu(h:∀x∈xs,x.cells.size=w){k:Nat}{x:Value}(hk:xs[k]?=some x){v:Value}(hj:x.cells[j]?=some v):
 (Zv xs)[k*w+j]?=some v:=by
 induction xs generalizing k with
 | nil=>simp at hk
 | cons y ys ih =>
  have hy:=h y (by simp)
  simp only[Zv,List.flatMap_cons]
  cases k with
  | zero =>
   simp only[List.getElem?_cons_zero,Option.some.injEq]at hk;subst hk
   have hlt:j<y.cells.size:=by
    rcases Nat.lt_or_ge j y.cells.size with h'|h'
    ·exact h'
    ·rw[Array.getElem?_eq_none h']at hj;simp at hj
   rw[Nat.zero_mul,Nat.zero_add,jL (by simpa using hlt)]
   simpa using hj
  | succ k =>
   have:=ih (fun z hz=>h z (by simp[hz])) (by simpa using hk)
   rw[List.getElem?_append_right (by simp[hy,Nat.add_mul];omega)]
   rw[show (k+1)*w+j-y.cells.toList.length=k*w+j by simp[hy,Nat.add_mul];omega]
   exact this
section
variable {W0:World}{B0:Bse}{st st':St}{ρ:Rho}{W:World}
theorem ArrOk.vals{B0:Bse}{C:Cx}{W:World}{l:Loc}(h:ArrOk B0 C W l w es):
 ∃xs:List Value,RL C es xs/\∀i x,xs[i]?=some x->x.cells.size=w/\Lies (Qb W) l.b (l.o+i*w) x:=by
 have hex:∀i,∃x,∀e,es[i]?=some e->R C e x/\x.cells.size=w/\Lies (Qb W) l.b (l.o+i*w) x:=by
  intro i
  cases he:es[i]? with
  | none=>exact⟨undef,fun e h=>by simp at h⟩
  | some e =>
   obtain⟨x,hx⟩:=h.el i e he
   exact⟨x,fun e' h'=>by simp only[Option.some.injEq]at h';subst h';exact hx⟩
 obtain⟨f,hf⟩:=Classical.axiomOfChoice hex
 refine⟨(List.range es.length).map f,⟨by simp,fun i e x he hx=>?_⟩,fun i x hx=>?_⟩
 ·rw[jG]at hx
  cases hr:(List.range es.length)[i]? with
  | none=>rw[hr]at hx;simp at hx
  | some k =>
   rw[hr]at hx;simp only[Option.map_some,Option.some.injEq]at hx
   have : i = k := by rw[List.getElem?_range]at hr; · simpa using hr
                      ·rcases Nat.lt_or_ge i es.length with h'|h'
                       ·exact h'
                       ·rw[List.getElem?_eq_none (by simpa using h')]at hr;simp at hr
   subst this;subst hx;exact (hf i e he).1
 ·rw[jG]at hx
  cases hr:(List.range es.length)[i]? with
  | none=>rw[hr]at hx;simp at hx
  | some k =>
   rw[hr]at hx;simp only[Option.map_some,Option.some.injEq]at hx
   have hi:i<es.length:=by
    rcases Nat.lt_or_ge i es.length with h'|h'
    ·exact h'
    ·rw[List.getElem?_eq_none (by simpa using h')]at hr;simp at hr
   have:i=k:=by rw[List.getElem?_range hi]at hr;simpa using hr
   subst this;subst hx;exact (hf i _ (jE hi)).2
theorem Zm{α:Type}{l:List α}{a:α}(h:l[i]?=some a):i<l.length:=by
 rcases Nat.lt_or_ge i l.length with h'|h'
 ·exact h'
 ·rw[List.getElem?_eq_none h']at h;simp at h
theorem YF{α:Type}{l:Array α}{a:α}(h:l[i]?=some a):i<l.size:=by
 rcases Nat.lt_or_ge i l.size with h'|h'
 ·exact h'
 ·rw[Array.getElem?_eq_none h']at h;simp at h
theorem Zwz(h:Rel W0 B0 st ρ W){lv s:Nat}{ys:LV}(hg:st.get lv ix=some (.arr w ver es))(hsn:s+n<=es.length)
 (hp:st.put lv ix (.arr w (ver+1) ((es.drop s).take n++ys))=some st') (hx:RL (cx st ρ W lv) ys xs) (hw:∀x∈xs,x.cells.size=w)
 (hcap:s+n+ys.length<=(ρ lv ix).c) :
 Goes W0 B0 st ρ W st' (upd ρ lv ix ⟨(ρ lv ix).b,(ρ lv ix).o+s*w,(ρ lv ix).c-s⟩) (W.setCells (ρ lv ix).b ((ρ lv ix).o+(s+n)*w) (Zv xs)):=by
 have sh:=Sh.of_put hp;obtain⟨a1,a2,a3⟩:=h.arr lv ix w ver es hg
 have hfl:(Zv xs).length=ys.length*w:=by rw[Xc hw,hx.1]
 have hroom:(s+n)*w+ys.length*w<=(ρ lv ix).c*w:=by rw[<- Nat.add_mul];exact Nat.mul_le_mul_right w hcap
 have hsome:∀j,j<(Zv xs).length->(W.cell? ⟨(ρ lv ix).b,(ρ lv ix).o+(s+n)*w+j,none⟩).isSome=true:=by
  intro j hj
  have:=(a3 ((s+n)*w+j) (by omega)).2.1
  rwa [show (ρ lv ix).o+((s+n)*w+j)=(ρ lv ix).o+(s+n)*w+j by omega]at this
 have hb0:Zv xs=[]\/B0<=(ρ lv ix).b:=by
  cases hfx:Zv xs with
  | nil=>exact .inl Y
  | cons v vs=>exact .inr (a3 ((s+n)*w) (by rw[hfx]at hfl;simp at hfl;omega)).1
 have hsub:((ρ lv ix).c-s)*w+s*w<=(ρ lv ix).c*w:=by rw[<- Nat.add_mul];exact Nat.mul_le_mul_right w (by omega)
 have k:Chg W0 B0 st ρ W lv ix (.arr w (ver+1) ((es.drop s).take n++ys)) st' (upd ρ lv ix ⟨(ρ lv ix).b,(ρ lv ix).o+s*w,(ρ lv ix).c-s⟩)
  (W.setCells (ρ lv ix).b ((ρ lv ix).o+(s+n)*w) (Zv xs)):=by
  refine⟨sh.get0,sh.get,fun _ _ hne=>ZW5 _ _ _ _ hne,sh.len,sh.old,sh.ro,sh.cur,rfl,Je _ _ _ _ h.below hb0,by rw[ZBQ];exact Nat.le_refl _,?_,
   fun b o' hs=>World.frozen?_setCells _ _ _ _ _,fun b en clock hb _=>ZBR _ _ _ _ hb,?_,fun es he=>by simp at he,fun k ob hk hs=>(Je (B:=0) _ _ _ _ (.refl _ _) (.inr (Nat.zero_le _))).s k ob hk hs,fun e=>by simp at e⟩
  ·intro b o' v hc hn
   refine Qx hc ?_
   rintro⟨rfl,h2,h3⟩
   exact hn w ver es hg ⟨rfl,by omega,by omega⟩
  ·intro w' ver' es1 he
   simp only[Blk.arr.injEq]at he;obtain⟨rfl,rfl,rfl⟩:=he
   refine⟨.inr ⟨w,ver,es,hg,by omega,fun h=>by omega⟩,fun j hj=>.inr ⟨w,ver,es,hg,?_⟩⟩
   rw[upd_same]at hj ⊢
   exact⟨rfl,by simp only;omega,by simp only at hj ⊢;omega⟩
 refine⟨k.rel h ?_ (fun es he=>by simp at he),k.ev h⟩
 intro w' ver' es1 he;simp only[Blk.arr.injEq]at he;obtain⟨rfl,rfl,rfl⟩:=he;rw[upd_same]
 have hl:((es.drop s).take n).length=n:=by simp;omega
 refine⟨by simp only[List.length_append,hl];omega,?_,?_⟩
 ·intro i e he
  by_cases hi:i<n
  ·rw[jL (by omega),List.getElem?_take,if_pos hi,List.getElem?_drop]at he
   obtain⟨x,hx1,hx2,hx3⟩:=a2 (s+i) e he;refine⟨x,hx1.mono (k.le h lv),hx2,?_⟩;intro j v hv;have hj:=YF hv
   have:=hx3 j v hv
   simp only
   rw[show (ρ lv ix).o+s*w+i*w+j=(ρ lv ix).o+(s+i)*w+j by rw[Nat.add_mul];omega]
   refine Qx this ?_
   rintro⟨_,h2,h3⟩
   have:(s+i+1)*w<=(s+n)*w:=Nat.mul_le_mul_right w (by omega)
   rw[Nat.add_mul,Nat.one_mul]at this;omega
  ·rw[List.getElem?_append_right (by omega),hl]at he
   obtain⟨x,hx1,hx2⟩:=hx.get he;have hxw:=hw x (jM hx1);refine⟨x,hx2.mono (k.le h lv),hxw,?_⟩;intro j v hv
   have:=ZAQ (W:=W) (b:=(ρ lv ix).b) (o:=(ρ lv ix).o+(s+n)*w) hsome (ZCu hw hx1 hv)
   have hmul:i*w=n*w+(i-n)*w:=by rw[<- Nat.add_mul];congr 1;omega
   simp only
   rw[show (ρ lv ix).o+s*w+i*w+j=(ρ lv ix).o+(s+n)*w+((i-n)*w+j) by rw[Nat.add_mul,hmul];omega]
   exact this
 ·intro j hj
  simp only at hj ⊢
  obtain⟨m1,m2,m3⟩:=a3 (s*w+j) (by omega)
  rw[show (ρ lv ix).o+(s*w+j)=(ρ lv ix).o+s*w+j by omega]at m2 m3
  refine⟨m1,?_,by rw[World.frozen?_setCells];exact m3⟩
  by_cases hin:(s+n)*w<=s*w+j/\s*w+j<(s+n)*w+(Zv xs).length
  ·have hlt:s*w+j-(s+n)*w<(Zv xs).length:=by omega
   have:=ZAQ (W:=W) (b:=(ρ lv ix).b) (o:=(ρ lv ix).o+(s+n)*w) hsome (jE hlt)
   rw[show (ρ lv ix).o+(s+n)*w+(s*w+j-(s+n)*w)=(ρ lv ix).o+s*w+j by omega]at this
   unfold Qb at this;rw[this];rfl
  ·obtain⟨u,hu⟩:=Option.isSome_iff_exists.1 m2
   have:Qb (W.setCells (ρ lv ix).b ((ρ lv ix).o+(s+n)*w) (Zv xs)) (ρ lv ix).b ((ρ lv ix).o+s*w+j) u:=Qx hu (by rintro⟨_,h3,h4⟩;omega)
   unfold Qb at this;rw[this];rfl
theorem Zum(h:Rel W0 B0 st ρ W){lv s:Nat}{ys:LV}(hg:st.get lv ix=some (.arr w ver es))(hsn:s+ys.length<=es.length)
 (hp:st.put lv ix (.arr w ver (es.take s++ys++es.drop (s+ys.length)))=some st') (hx:RL (cx st ρ W lv) ys xs) (hw:∀x∈xs,x.cells.size=w) :
 Goes W0 B0 st ρ W st' ρ (W.setCells (ρ lv ix).b ((ρ lv ix).o+s*w) (Zv xs)):=by
 have sh:=Sh.of_put hp;obtain⟨a1,a2,a3⟩:=h.arr lv ix w ver es hg
 have hfl:(Zv xs).length=ys.length*w:=by rw[Xc hw,hx.1]
 have hroom:s*w+ys.length*w<=(ρ lv ix).c*w:=by rw[<- Nat.add_mul];exact Nat.mul_le_mul_right w (by omega)
 have hsome:∀j,j<(Zv xs).length->(W.cell? ⟨(ρ lv ix).b,(ρ lv ix).o+s*w+j,none⟩).isSome=true:=by
  intro j hj
  have:=(a3 (s*w+j) (by omega)).2.1
  rwa [show (ρ lv ix).o+(s*w+j)=(ρ lv ix).o+s*w+j by omega]at this
 have hb0:Zv xs=[]\/B0<=(ρ lv ix).b:=by
  cases hfx:Zv xs with
  | nil=>exact .inl Y
  | cons v vs=>exact .inr (a3 (s*w) (by rw[hfx]at hfl;simp at hfl;omega)).1
 have hl1:(es.take s++ys++es.drop (s+ys.length)).length=es.length:=by simp only[List.length_append,List.length_take,List.length_drop];omega
 have k:Chg W0 B0 st ρ W lv ix (.arr w ver (es.take s++ys++es.drop (s+ys.length))) st' ρ (W.setCells (ρ lv ix).b ((ρ lv ix).o+s*w) (Zv xs)):=by
  refine⟨sh.get0,sh.get,fun _ _ hne=>rfl,sh.len,sh.old,sh.ro,sh.cur,rfl,Je _ _ _ _ h.below hb0,by rw[ZBQ];exact Nat.le_refl _,?_,
   fun b o' hs=>World.frozen?_setCells _ _ _ _ _,fun b en clock hb _=>ZBR _ _ _ _ hb,?_,fun es he=>by simp at he,fun k ob hk hs=>(Je (B:=0) _ _ _ _ (.refl _ _) (.inr (Nat.zero_le _))).s k ob hk hs,fun e=>.inr (by simp only[Blk.arr.injEq]at e;obtain⟨e1,e2,e3⟩:=e;have e4:es=[]:=List.length_eq_zero_iff.1 (by rw[<- hl1,e3];rfl);rw[hg,e1,e2,e4])⟩
  ·intro b o' v hc hn
   refine Qx hc ?_
   rintro⟨rfl,h2,h3⟩
   exact hn w ver es hg ⟨rfl,by omega,by omega⟩
  ·intro w' ver' es1 he
   simp only[Blk.arr.injEq]at he;obtain⟨rfl,rfl,rfl⟩:=he
   exact⟨.inr ⟨w,ver,es,hg,Nat.le_refl _,fun _=>⟨rfl,by rw[hl1];exact Nat.le_refl _,rfl⟩⟩,fun j hj=>.inr ⟨w,ver,es,hg,rfl,by omega,by omega⟩⟩
 refine⟨k.rel h ?_ (fun es he=>by simp at he),k.ev h⟩
 intro w' ver' es1 he;simp only[Blk.arr.injEq]at he;obtain⟨rfl,rfl,rfl⟩:=he
 have old:∀(i:Nat) (e:AV),es[i]?=some e->(i<s\/s+ys.length<=i)->∃x,R (cx st' ρ (W.setCells (ρ lv ix).b ((ρ lv ix).o+s*w) (Zv xs)) lv) e x/\x.cells.size=w/\Lies (Qb (W.setCells (ρ lv ix).b ((ρ lv ix).o+s*w) (Zv xs))) (ρ lv ix).b ((ρ lv ix).o+i*w) x:=by
  intro i e he hi;obtain⟨x,hx1,hx2,hx3⟩:=a2 i e he
  refine⟨x,hx1.mono (k.le h lv),hx2,fun j v hv=>?_⟩
  have hj:=YF hv;refine Qx (hx3 j v hv) ?_
  rintro⟨_,h2,h3⟩
  rcases hi with hi|hi
  ·have:(i+1)*w<=s*w:=Nat.mul_le_mul_right w (by omega)
   rw[Nat.add_mul,Nat.one_mul]at this;omega
  ·have:(s+ys.length)*w<=i*w:=Nat.mul_le_mul_right w (by omega)
   rw[Nat.add_mul]at this;omega
 refine⟨by rw[hl1];exact a1,?_,?_⟩
 ·intro i e he
  by_cases h1:i<s
  ·rw[List.append_assoc,jL (by rw[List.length_take];omega),List.getElem?_take,if_pos h1]at he
   exact old i e he (.inl h1)
  ·by_cases h2:i<s+ys.length
   ·rw[List.append_assoc,List.getElem?_append_right (by rw[List.length_take];omega),List.length_take,Nat.min_eq_left (by omega),jL (by omega)]at he
    obtain⟨x,hx1,hx2⟩:=hx.get he;have hxw:=hw x (jM hx1)
    refine⟨x,hx2.mono (k.le h lv),hxw,fun j v hv=>?_⟩
    have:=ZAQ (W:=W) (b:=(ρ lv ix).b) (o:=(ρ lv ix).o+s*w) hsome (ZCu hw hx1 hv)
    have hmul:i*w=s*w+(i-s)*w:=by rw[<- Nat.add_mul];congr 1;omega
    rw[show (ρ lv ix).o+i*w+j=(ρ lv ix).o+s*w+((i-s)*w+j) by rw[hmul];omega]
    exact this
   ·rw[List.getElem?_append_right (by simp only[List.length_append,List.length_take];omega),List.getElem?_drop]at he
    have hix:s+ys.length+(i-(es.take s++ys).length)=i:=by simp only[List.length_append,List.length_take];omega
    rw[hix]at he
    exact old i e he (.inr (by omega))
 ·intro j hj
  obtain⟨m1,m2,m3⟩:=a3 j hj
  refine⟨m1,?_,by rw[World.frozen?_setCells];exact m3⟩
  by_cases hin:s*w<=j/\j<s*w+(Zv xs).length
  ·have hlt:j-s*w<(Zv xs).length:=by omega
   have:=ZAQ (W:=W) (b:=(ρ lv ix).b) (o:=(ρ lv ix).o+s*w) hsome (jE hlt)
   rw[show (ρ lv ix).o+s*w+(j-s*w)=(ρ lv ix).o+j by omega]at this
   unfold Qb at this;rw[this];rfl
  ·obtain⟨u,hu⟩:=Option.isSome_iff_exists.1 m2
   have:Qb (W.setCells (ρ lv ix).b ((ρ lv ix).o+s*w) (Zv xs)) (ρ lv ix).b ((ρ lv ix).o+j) u:=Qx hu (by rintro⟨_,h3,h4⟩;omega)
   unfold Qb at this;rw[this];rfl
theorem Zun(h:Rel W0 B0 st ρ W){lv:Nat}{cs:Array Value}{elem:TypeId}(hg:st.get lv ix=some (.arr w ver es))
 (hp:st.put lv ix (.arr w (ver+1) es')=some st') (hx:RL (cx st ρ W lv) es' xs) (hw:∀x∈xs,x.cells.size=w) (hc:es'.length<=c) (hcs:c*w<=cs.size)
 (hl:∀i x,xs[i]?=some x->∀j v,x.cells[j]?=some v->cs[i*w+j]?=some v) :
 Goes W0 B0 st ρ W st' (upd ρ lv ix ⟨W.heap.size,0,c⟩) (W.alloc (.cells cs elem)):=by
 have sh:=Sh.of_put hp
 have k:Chg W0 B0 st ρ W lv ix (.arr w (ver+1) es') st' (upd ρ lv ix ⟨W.heap.size,0,c⟩) (W.alloc (.cells cs elem)):=by
  refine⟨sh.get0,sh.get,fun _ _ hne=>ZW5 _ _ _ _ hne,sh.len,sh.old,sh.ro,sh.cur,rfl,h.below.alloc h.b0 _,by simp,fun b o v hc _=>ZA8 hc,fun b o hs=>ZCK hs,
   fun b en clock hb _=>ZAE hb,?_,fun es he=>by simp at he,fun k ob hk _=>ZAE hk,fun e=>by simp at e⟩
  intro w' ver' es1 he;simp only[Blk.arr.injEq]at he;obtain⟨rfl,rfl,rfl⟩:=he
  refine⟨.inr ⟨w,ver,es,hg,by omega,fun h=>by omega⟩,fun j hj=>.inl ?_⟩
  rw[upd_same];exact ZjV (Nat.le_refl _)
 refine⟨k.rel h ?_ (fun es he=>by simp at he),k.ev h⟩
 intro w' ver' es1 he;simp only[Blk.arr.injEq]at he;obtain⟨rfl,rfl,rfl⟩:=he;rw[upd_same];refine⟨hc,?_,?_⟩
 ·intro i' e he
  obtain⟨x,hx1,hx2⟩:=hx.get he;refine⟨x,hx2.mono (k.le h lv),hw x (jM hx1),?_⟩;intro j v hv
  have:=hl i' x hx1 j v hv
  unfold Qb;simp only[Nat.zero_add];rw[World.cell?_alloc_new];exact this
 ·intro j hj
  have hjs:j<cs.size:=by simp only at hj;omega
  refine⟨h.b0,?_,?_⟩
  ·simp only[Nat.zero_add];rw[World.cell?_alloc_new,Array.getElem?_eq_getElem hjs];rfl
  ·simp only[Nat.zero_add];exact World.frozen?_alloc_new _ _ _ _
theorem ZQ3(h:Rel W0 B0 st ρ W){lv:Nat}{es es':List (AV × AV)}{en:Array MapEntry}(hg:st.get lv ix=some (.map es))(hp:st.put lv ix (.map es')=some st')
 (hs:MapFit en clock es'.length) (he:∀(i:Nat) (k v:AV),es'[i]?=some (k,v)->Zlj k=true/\∃x:MapEntry,en[i]?=some x/\R (cx st ρ W lv) k x.key/\R (cx st ρ W lv) v x.val) :
 Goes W0 B0 st ρ W st' ρ { W with heap:=W.heap.setIfInBounds (ρ lv ix).b (.map en clock) }:=by
 have sh:=Sh.of_put hp;obtain⟨m1,en0,clock0,m2,m3,m4⟩:=h.map lv ix es hg;have hlt:(ρ lv ix).b<W.heap.size:=YF m2
 have hcell:∀a,({ W with heap:=W.heap.setIfInBounds (ρ lv ix).b (.map en clock) }:World).cell? a=W.cell? a:=by
  intro a
  by_cases e:(ρ lv ix).b=a.block
  ·have h1:(W.heap.setIfInBounds (ρ lv ix).b (.map en clock))[a.block]?=some (.map en clock):=by rw[<- e];simp[hlt]
   have h2:W.heap[a.block]?=some (.map en0 clock0):=by rw[<- e];exact m2
   simp only[World.cell?,h1,h2]
  ·have h1:(W.heap.setIfInBounds (ρ lv ix).b (.map en clock))[a.block]?=W.heap[a.block]?:=by simp[e]
   simp only[World.cell?,h1]
 have hfroz:∀a,({ W with heap:=W.heap.setIfInBounds (ρ lv ix).b (.map en clock) }:World).frozen? a=W.frozen? a:=by
  intro a
  by_cases e:(ρ lv ix).b=a.block
  ·have h1:(W.heap.setIfInBounds (ρ lv ix).b (.map en clock))[a.block]?=some (.map en clock):=by rw[<- e];simp[hlt]
   have h2:W.heap[a.block]?=some (.map en0 clock0):=by rw[<- e];exact m2
   simp only[World.frozen?,h1,h2]
  ·have h1:(W.heap.setIfInBounds (ρ lv ix).b (.map en clock))[a.block]?=W.heap[a.block]?:=by simp[e]
   simp only[World.frozen?,h1]
 have k:Chg W0 B0 st ρ W lv ix (.map es') st' ρ { W with heap:=W.heap.setIfInBounds (ρ lv ix).b (.map en clock) }:=by
  refine⟨sh.get0,sh.get,fun _ _ _=>rfl,sh.len,sh.old,sh.ro,sh.cur,rfl,?_,by simp,fun b o v hc _=>by unfold Qb;rw[hcell];exact hc,fun b o hs=>hfroz _,?_,
   fun w ver es he=>by simp at he,fun es1 he=>.inr ⟨⟨es,hg⟩,rfl⟩,fun i ob hi hs=>?_,fun e=>by simp at e⟩
  ·refine h.below.trans ⟨⟨rfl,rfl,rfl,by simp,fun i hi=>?_⟩,fun i ob hi hs=>?_⟩
   ·simp only[Array.getElem?_setIfInBounds]
    rw[if_neg (by omega)]
   ·simp only[Array.getElem?_setIfInBounds]
    by_cases e:(ρ lv ix).b=i
    ·exfalso
     rw[<- e,m2]at hi;simp only[Option.some.injEq]at hi;subst hi;simp[ZcV]at hs
    ·rw[if_neg e];exact hi
  ·intro b en1 clock1 hb hne
   simp only[Array.getElem?_setIfInBounds]
   rw[if_neg (fun e=>hne es hg e.symm)]
   exact hb
  ·simp only[Array.getElem?_setIfInBounds]
   by_cases e:(ρ lv ix).b=i
   ·exfalso
    rw[<- e,m2]at hi;simp only[Option.some.injEq]at hi;subst hi;simp[ZcV]at hs
   ·rw[if_neg e];exact hi
 refine⟨k.rel h (fun w ver es he=>by simp at he) ?_,k.ev h⟩
 intro es1 he1;simp only[Blk.map.injEq]at he1;subst he1
 refine⟨m1,en,clock,by simp[hlt],hs,fun i kk v hk=>?_⟩
 obtain⟨n1,x,n2,n3,n4⟩:=he i kk v hk;exact⟨n1,x,n2,n3.mono (k.le h lv),n4.mono (k.le h lv)⟩
end
def Dc(b:Nat)(st:St)(ρ:Rho)(W:World):Cx :=
 match b with
 | 0=>(cx st ρ W 0).pure
 | m+1=>cx st ρ W m
section
variable {W0:World}{B0:Bse}{st st':St}{ρ ρ':Rho}{W W':World}
theorem Ev.dle(h:Ev st ρ W st' ρ' W')(hb:b<=st.A.length+1):(Dc b st ρ W).le (Dc b st' ρ' W'):=by
 cases b with
 | zero=>exact (h.le 0 (Nat.zero_le _)).pure
 | succ m=>exact h.le m (by omega)
theorem Zps(b:Nat)(st:St)(ρ:Rho)(W:World):(Dc b st ρ W).im=(cx st ρ W 0).im:=by cases b<;>rfl
theorem ZjX{C:Cx}(hx:RL C.pure es xs)(hl:∀i x,xs[i]?=some x->x.cells.size=w/\Lies C.im b (o+i*w) x)(hc:es.length<=c)
 {a:Option Addr} (ha:0<es.length->a=some ⟨b,o,none⟩):R C (.lit es) (.slice a es.length c):=by
 cases es with
 | nil=>exact .lit0 a c
 | cons e es =>
  have ha:=ha (by simp)
  subst ha
  refine .lit (w:=w) (fun i=>xs.getD i Go.undef) (fun i e he=>?_) (fun i hi=>?_) hc
  ·obtain⟨x,h1,h2⟩:=hx.get he
   simp only[List.getD,h1,Option.getD_some];exact h2
  ·have hlt:i<xs.length:=by rw[<- hx.1];exact hi
   simp only[List.getD,jE hlt,Option.getD_some];exact hl i _ (jE hlt)
theorem Xv{f:St->AV->OS}{b:Nat}
 (hf:∀(st:St) (v:AV) (x:Value) (v':AV) (st':St),Rel W0 B0 st ρ W->b<=st.A.length+1->R (cx st ρ W st.A.length) v x->f st v=some (v',st')->Goes W0 B0 st ρ W st' ρ W/\R (Dc b st' ρ W) v' x) :
 ∀ {vs:LV} {xs:List Value} {st st':St} {vs':LV},Rel W0 B0 st ρ W->b<=st.A.length+1->RL (cx st ρ W st.A.length) vs xs->mapSt f st vs=some (vs',st') ->
  Goes W0 B0 st ρ W st' ρ W/\RL (Dc b st' ρ W) vs' xs
 | [],xs,st,st',vs',hr,hb,hx,h=>by
  simp only[mapSt,Option.some.injEq,jP]at h;obtain⟨rfl,rfl⟩:=h;rw[hx.nil_inv];exact⟨.refl hr,.nil _⟩
 | v::vs,xs,st,st',vs',hr,hb,hx,h=>by
  obtain⟨x,xs,rfl,h1,h2⟩:=hx.cons_inv;simp only[mapSt,Option.bind_eq_some_iff,ZBv,Option.some.injEq,jP]at h;obtain⟨⟨v',st1⟩,e1,⟨vs1,st2⟩,e2,e3,e4⟩:=h;subst e3;subst e4;obtain⟨g1,r1⟩:=hf st v x v' st1 hr hb h1 e1;have hle:=g1.ev.le st.A.length (Nat.le_refl _);have hlen:=g1.ev.len
  obtain⟨g2,r2⟩:=Xv hf g1.rel (by rw[hlen];exact hb) (by rw[hlen];exact h2.mono hle) e2
  exact⟨g1.trans g2,.cons (r1.mono (g2.ev.dle (by rw[hlen];exact hb))) r2⟩
theorem ZsP{f:St->AV->OS}
 (hf:∀(st:St) (v:AV) (x:Value) (v':AV) (st':St),Rel W0 B0 st ρ W->b<=st.A.length+1->R (cx st ρ W st.A.length) v x->f st v=some (v',st')->Goes W0 B0 st ρ W st' ρ W/\R (Dc b st' ρ W) v' x) :
 ∀(st:St) (v:AV) (x:Value) (v':AV) (st':St),Rel W0 B0 st ρ W->b<=st.A.length+1->R (cx st ρ W st.A.length) v x->keepN f st v=some (v',st')->Goes W0 B0 st ρ W st' ρ W/\R (Dc b st' ρ W) v' x:=by
 intro st v x v' st' hr hb hx h;unfold keepN at h
 split at h
 ·rename_i hn
  cases v with
  | nils =>
   simp only[Option.some.injEq,jP]at h;obtain⟨rfl,rfl⟩:=h
   cases hx with
   | nils a=>exact⟨.refl hr,.nils a⟩
  | _=>simp[Xo]at hn
 ·exact hf st v x v' st' hr hb hx h
theorem ZBW:∀(n b:Nat) (st:St) (v:AV) (x:Value) (v':AV) (st':St),Rel W0 B0 st ρ W->b<=st.A.length+1->R (cx st ρ W st.A.length) v x->Zb n b st v=some (v',st') ->
 Goes W0 B0 st ρ W st' ρ W/\R (Dc b st' ρ W) v' x
 | 0,_,_,_,_,_,_,_,_,_,h=>by simp[Zb]at h
 | n+1,b,st,v,x,v',st',hr,hb,hx,h=>by
  have ih:=fun b=>ZBW n b
  cases hx with
  | any v=>simp only[Zb,Option.some.injEq,jP]at h;obtain⟨rfl,rfl⟩:=h;exact⟨.refl hr,.any _⟩
  | undef=>simp only[Zb,Option.some.injEq,jP]at h;obtain⟨rfl,rfl⟩:=h;exact⟨.refl hr,.undef⟩
  | bool b=>simp only[Zb,Option.some.injEq,jP]at h;obtain⟨rfl,rfl⟩:=h;exact⟨.refl hr,.bool _⟩
  | int q k=>simp only[Zb,Option.some.injEq,jP]at h;obtain⟨rfl,rfl⟩:=h;exact⟨.refl hr,.int _ _⟩
  | str s=>simp only[Zb,Option.some.injEq,jP]at h;obtain⟨rfl,rfl⟩:=h;exact⟨.refl hr,.str _⟩
  | nilptr=>simp only[Zb,Option.some.injEq,jP]at h;obtain⟨rfl,rfl⟩:=h;exact⟨.refl hr,.nilptr⟩
  | @ptr _ lv ix ver i o _ hp =>
   simp only[Zb]at h
   split at h
   ·rename_i hlt
    simp only[Option.some.injEq,jP]at h;obtain⟨rfl,rfl⟩:=h;refine⟨.refl hr,?_⟩
    cases b with
    | zero=>omega
    | succ m=>exact .ptr ⟨by omega,hp.2⟩
   ·split at h
    ·rename_i hlv
     obtain⟨hlv,hro⟩:=hlv;simp only[Option.bind_eq_some_iff]at h;obtain⟨e0,hes,⟨e',st2⟩,hm,hk⟩:=h;simp only[Zr9,Option.some.injEq,jP]at hk;obtain⟨rfl,rfl⟩:=hk;subst hlv
     cases hL:st.L[ix]? with
     | none=>rw[hL]at hes;simp[Zn3]at hes
     | some blk =>
      rw[hL]at hes
      cases blk with
      | map _=>simp[Zn3]at hes
      | dead=>simp[Zn3]at hes
      | hole _=>simp[Zn3]at hes
      | arr w ver' es =>
       simp only[Zn3]at hes
       split at hes
       ·rename_i hc
        subst hc
        have hget:st.get st.A.length ix=some (.arr w ver es):=by simp[St.get,hL,vis]
        obtain⟨_,_,_,_,hfull⟩:=hp;have hv:=hfull w es hget;subst hv;have aok:=hr.arr _ _ _ _ _ hget;obtain⟨y,hy1,hy2,hy3⟩:=aok.el i e0 hes;have g1:=Zly hr hro hL
        obtain⟨g2,r2⟩:=ih 0 _ _ _ _ _ g1.rel (by omega) (hy1.mono (g1.ev.le _ (Nat.le_refl _))) hm
        refine⟨g1.trans g2,?_⟩
        have hpure:R (Dc b st2 ρ W).pure e' y:=by
         refine R.mono (C:=Dc 0 st2 ρ W) r2 ?_
         refine⟨?_,fun _ _ _ _ _ _ h=>h.elim,fun _ _ _ _ _ _ h=>h.elim,fun _ _ _ h=>h.elim,fun _ _ _ h=>h.elim⟩
         intro b' o v hv
         show (Dc b st2 ρ W).im _ _ _
         rw[Zps];exact hv
        refine .lptr hpure ?_;intro j v hv;have hj:=YF hv;have hc1:=hy3 j v hv;rw[Zps];have hle1:=aok.len;have hi:=Zm hes
        have hmul:(i+1)*w<=(ρ st.A.length ix).c*w:=Nat.mul_le_mul_right w (by omega)
        rw[Nat.add_mul,Nat.one_mul]at hmul;refine (g2.ev.le 0 (Nat.zero_le _)).im _ _ _ ⟨hc1,?_⟩
        rintro⟨lv',ix',w',ver',es',hg',hr'⟩
        have sh:=Sh.of_kill hro hL
        by_cases hid:lv'=st.A.length/\ix'=ix
        ·rw[hid.1,hid.2,sh.get0]at hg';simp at hg'
        ·rw[sh.get lv' ix' hid]at hg'
         have:=hr.apart hget hg' (b:=(ρ st.A.length ix).b) (o:=(ρ st.A.length ix).o+i*w+j) ⟨rfl,by omega,by omega⟩ hr'
         exact hid ⟨this.1.symm,this.2.symm⟩
       ·simp at hes
    ·simp at h
  | lptr he hl=>simp only[Zb,Option.some.injEq,jP]at h;obtain⟨rfl,rfl⟩:=h;refine⟨.refl hr,?_⟩;cases b with
   | zero=>exact .lptr he hl
   | succ m=>exact .lptr he hl
  | nils a=>simp only[Zb,Option.some.injEq,jP]at h;obtain⟨rfl,rfl⟩:=h;exact⟨.refl hr,.lit0 _ _⟩
  | lit0 a c=>simp only[Zb,Option.some.injEq,jP]at h;obtain⟨rfl,rfl⟩:=h;exact⟨.refl hr,.lit0 _ _⟩
  | lit xs h1 h2 h3=>simp only[Zb,Option.some.injEq,jP]at h;obtain⟨rfl,rfl⟩:=h;refine⟨.refl hr,?_⟩;cases b with
   | zero=>exact .lit xs h1 h2 h3
   | succ m=>exact .lit xs h1 h2 h3
  | nilmap=>simp only[Zb,Option.some.injEq,jP]at h;obtain⟨rfl,rfl⟩:=h;exact⟨.refl hr,.nilmap⟩
  | map hp =>
   simp only[Zb]at h
   split at h
   ·rename_i hlt
    simp only[Option.some.injEq,jP]at h;obtain⟨rfl,rfl⟩:=h;refine⟨.refl hr,?_⟩
    cases b with
    | zero=>omega
    | succ m=>exact .map ⟨by omega,hp.2⟩
   ·simp at h
  | nilfunc=>simp only[Zb,Option.some.injEq,jP]at h;obtain⟨rfl,rfl⟩:=h;exact⟨.refl hr,.nilfunc⟩
  | niliface=>simp only[Zb,Option.some.injEq,jP]at h;obtain⟨rfl,rfl⟩:=h;exact⟨.refl hr,.niliface⟩
  | iface t hi =>
   simp only[Zb,Option.bind_eq_some_iff,Zn4,Option.some.injEq,jP]at h;obtain⟨⟨w,st1⟩,e1,e2,e3⟩:=h;subst e2;subst e3;obtain⟨g1,r1⟩:=ih b st _ _ _ _ hr hb hi e1;exact⟨g1,.iface t r1⟩
  | agg hl hi =>
   simp only[Zb,Option.bind_eq_some_iff,Zf3,Option.some.injEq,jP]at h;obtain⟨⟨w,st1⟩,e1,e2,e3⟩:=h;subst e2;subst e3
   obtain⟨g1,r1⟩:=Xv (ZsP fun st v x v' st'=>ih b st v x v' st') hr hb ⟨hl,hi⟩ e1
   exact⟨g1,.agg' r1⟩
  | tup hl hi =>
   simp only[Zb,Option.bind_eq_some_iff,ZcE,Option.some.injEq,jP]at h;obtain⟨⟨w,st1⟩,e1,e2,e3⟩:=h;subst e2;subst e3
   obtain⟨g1,r1⟩:=Xv (fun st v x v' st'=>ih b st v x v' st') hr hb ⟨hl,hi⟩ e1
   exact⟨g1,.tup' r1⟩
  | @yld _ lv l tm cs hy hl hi =>
   simp only[Zb]at h
   by_cases hq:Zqm b (.yield lv)=true
   case neg=>rw[if_neg hq]at h;simp at h
   rw[if_pos hq]at h;have hlt:lv<b:=of_decide_eq_true hq;simp only[mapSt,Option.bind_some]at h;simp only[Option.bind_eq_some_iff,Option.some.injEq,jP]at h;obtain⟨⟨w,st1⟩,e1,e2,e3⟩:=h;subst e2;subst e3
   obtain⟨g1,r1⟩:=Xv (fun st v x v' st'=>ih b st v x v' st') hr hb ⟨hl,hi⟩ e1
   refine⟨g1,.yld ?_ r1.1 r1.2⟩
   cases b with
   | zero=>omega
   | succ m=>exact⟨by omega,hy.2⟩
  | @func _ fn hn fs cs xs ys hf hc rf rc =>
   simp only[Zb,Zuk hn,if_true,Option.bind_eq_some_iff,Option.some.injEq,jP]at h;obtain⟨⟨w,st1⟩,e1,⟨u,st2⟩,e2,e3,e4⟩:=h;subst e3;subst e4
   obtain⟨g1,r1⟩:=Xv (fun st v x v' st'=>ih b st v x v' st') hr hb ⟨hf,rf⟩ e1
   have hlen:=g1.ev.len
   have rc':RL (cx st1 ρ W st1.A.length) cs ys:=by rw[hlen];exact RL.mono ⟨hc,rc⟩ (g1.ev.le _ (Nat.le_refl _))
   obtain⟨g2,r2⟩:=Xv (fun st v x v' st'=>ih b st v x v' st') g1.rel (by rw[hlen];exact hb) rc' e2
   have r1':=r1.mono (g2.ev.dle (by rw[hlen];exact hb))
   exact⟨g1.trans g2,.func fn hn r1'.1 r2.1 r1'.2 r2.2⟩
  | @ref _ lv ix ver s m _ hp =>
   simp only[Zb]at h
   split at h
   ·rename_i hlt
    simp only[Option.some.injEq,jP]at h;obtain⟨rfl,rfl⟩:=h;refine⟨.refl hr,?_⟩
    cases b with
    | zero=>omega
    | succ m=>exact .ref ⟨by omega,hp.2⟩
   ·split at h
    ·rename_i hlv
     obtain⟨hlv,hro⟩:=hlv;simp only[Option.bind_eq_some_iff]at h;obtain⟨es2,hes,⟨es',st2⟩,hm,hk⟩:=h;simp only[ZjK,Option.some.injEq,jP]at hk;obtain⟨rfl,rfl⟩:=hk;subst hlv
     cases hL:st.L[ix]? with
     | none=>rw[hL]at hes;simp[ZFG]at hes
     | some blk =>
      rw[hL]at hes
      cases blk with
      | map _=>simp[ZFG]at hes
      | dead=>simp[ZFG]at hes
      | hole _=>simp[ZFG]at hes
      | arr w ver' es =>
       simp only[ZFG]at hes
       split at hes
       ·rename_i hc
        obtain⟨rfl,hsm⟩:=hc;simp only[Option.some.injEq]at hes;subst hes
        have hget:st.get st.A.length ix=some (.arr w ver es):=by simp[St.get,hL,vis]
        obtain⟨_,_,_,a,c,rfl,hfull⟩:=hp;obtain⟨q1,q2,q3⟩:=hfull w es hget;have aok:=hr.arr _ _ _ _ _ hget;obtain⟨xs,hxs,hlies⟩:=aok.vals;have g1:=Zly hr hro hL;have hxs2:=(hxs.drop s).take m
        obtain⟨g2,r2⟩:=Xv (fun st v x v' st'=>ih 0 st v x v' st') g1.rel (by omega) (hxs2.mono (g1.ev.le _ (Nat.le_refl _))) hm
        refine⟨g1.trans g2,?_⟩
        have hnum:es'.length=m:=by rw[r2.1];simp[<- hxs.1];omega
        have him:∀i x,((xs.drop s).take m)[i]?=some x->x.cells.size=w/\Lies (Dc b st2 ρ W).im (ρ st.A.length ix).b ((ρ st.A.length ix).o+s*w+i*w) x:=by
         intro i x hx;have hi:=Zm hx;rw[List.getElem?_take]at hx
         split at hx
         ·rw[List.getElem?_drop]at hx
          obtain⟨l1,l2⟩:=hlies _ _ hx
          refine⟨l1,fun j v hv=>?_⟩
          have hj:=YF hv;have hc1:=l2 j v hv;rw[Zps];have hsi:=Zm hx;rw[<- hxs.1]at hsi;have hle1:=aok.len
          have hmul:(s+i+1)*w<=(ρ st.A.length ix).c*w:=Nat.mul_le_mul_right w (by omega)
          rw[Nat.add_mul,Nat.one_mul]at hmul
          have e1:(ρ st.A.length ix).o+s*w+i*w+j=(ρ st.A.length ix).o+(s+i)*w+j:=by rw[Nat.add_mul];omega
          rw[e1];refine (g2.ev.le 0 (Nat.zero_le _)).im _ _ _ ⟨hc1,?_⟩
          rintro⟨lv',ix',w',ver',es',hg',hr'⟩
          have sh:=Sh.of_kill hro hL
          by_cases hid:lv'=st.A.length/\ix'=ix
          ·rw[hid.1,hid.2,sh.get0]at hg';simp at hg'
          ·rw[sh.get lv' ix' hid]at hg'
           have:=hr.apart hget hg' (b:=(ρ st.A.length ix).b) (o:=(ρ st.A.length ix).o+(s+i)*w+j) ⟨rfl,by omega,by omega⟩ hr'
           exact hid ⟨this.1.symm,this.2.symm⟩
         ·simp at hx
        have hpure:RL (Dc b st2 ρ W).pure es' ((xs.drop s).take m):=by
         refine r2.mono ?_
         refine⟨?_,fun _ _ _ _ _ _ h=>h.elim,fun _ _ _ _ _ _ h=>h.elim,fun _ _ _ h=>h.elim,fun _ _ _ h=>h.elim⟩
         intro b' o v hv
         show (Dc b st2 ρ W).im _ _ _
         rw[Zps];exact hv
        have:=ZjX (C:=Dc b st2 ρ W) (c:=c) hpure him (by have:=aok.len;omega) (a:=a) (by intro hpos;exact q3 (by have:=aok.len;omega))
        rwa [hnum]at this
       ·simp at hes
    ·simp at h
end
section
variable {W0:World}{B0:Bse}{s t:St}{ρ:Rho}{W:World}
structure Sub(M:Nat)(s t:St):Prop where
 eq:∀lv ix,lv<=M->t.get lv ix=s.get lv ix
 le:∀lv ix b,t.get lv ix=some b->lv<=M
theorem Sub.get{M:Nat}(h:Sub M s t){lv:Nat}{b:Blk}(hg:t.get lv ix=some b):s.get lv ix=some b:=by
 rw[<- h.eq lv ix (h.le lv ix b hg)];exact hg
theorem Sub.cx{M:Nat}(h:Sub M s t){m:Nat}(hm:m<=M):(cx s ρ W m).le (cx t ρ W m):=by
 refine⟨?_,?_,?_,?_,fun _ _ _ q=>q⟩
 ·rintro b o v ⟨h1,h2⟩
  refine⟨h1,fun hm=>h2 ?_⟩
  obtain⟨lv,ix,w,ver,es,hg,hr⟩:=hm;exact⟨lv,ix,w,ver,es,h.get hg,hr⟩
 ·rintro lv ix ver i o v ⟨h1,h2,h3,h4,h5⟩
  have e:=h.eq lv ix (by omega)
  exact⟨h1,by rw[e];exact h2,h3,fun w u es hg=>h4 w u es (by rw[<- e];exact hg),fun w es hg=>h5 w es (by rw[<- e];exact hg)⟩
 ·rintro lv ix ver i o v ⟨h1,h2,h3,a,c,h4,h5⟩
  have e:=h.eq lv ix (by omega)
  exact⟨h1,by rw[e];exact h2,fun w u es hg=>h3 w u es (by rw[<- e];exact hg),a,c,h4,fun w es hg=>h5 w es (by rw[<- e];exact hg)⟩
 ·rintro lv ix v ⟨h1,h2,r,h3,h5⟩
  have e:=h.eq lv ix (by omega)
  exact⟨h1,by rw[e];exact h2,r,h3,fun es hg=>h5 es (by rw[<- e];exact hg)⟩
theorem Sub.rel{M:Nat}(h:Sub M s t)(hr:Rel W0 B0 s ρ W):Rel W0 B0 t ρ W:=by
 refine⟨hr.below,hr.b0,hr.yl,?_,?_,?_,?_⟩
 ·intro lv ix w ver es hg
  obtain⟨a1,a2,a3⟩:=hr.arr lv ix w ver es (h.get hg)
  refine⟨a1,fun i e he=>?_,a3⟩
  obtain⟨x,h1,h2⟩:=a2 i e he;exact⟨x,h1.mono (h.cx (h.le _ _ _ hg)),h2⟩
 ·intro lv ix w ver es lv' ix' w' ver' es' hg hg' hne
  exact hr.sep lv ix w ver es lv' ix' w' ver' es' (h.get hg) (h.get hg') hne
 ·intro lv ix es hg
  obtain⟨m1,en,clock,m2,m3,m4⟩:=hr.map lv ix es (h.get hg)
  refine⟨m1,en,clock,m2,m3,fun i k v hk=>?_⟩
  obtain⟨n1,x,n2,n3,n4⟩:=m4 i k v hk;exact⟨n1,x,n2,n3.mono (h.cx (h.le _ _ _ hg)),n4.mono (h.cx (h.le _ _ _ hg))⟩
 ·intro lv ix es lv' ix' es' hg hg' hne
  exact hr.msep lv ix es lv' ix' es' (h.get hg) (h.get hg') hne
theorem Sub.same(h:∀lv ix,t.get lv ix=s.get lv ix):Sub t.A.length s t:=⟨fun lv ix _=>h lv ix,fun _ _ _ hg=>St.get_le hg⟩
theorem ZOE{lv:Nat}(h:st.A.length<lv):st.get lv ix=none:=by
 cases hg:st.get lv ix with
 | none=>rfl
 | some b=>have:=St.get_le hg;omega
theorem ZUy(st:St)(lv ix:Nat):st.push.get lv ix=st.get lv ix:=by
 unfold St.push;rw[St.get_push]
 split
 ·rename_i h;rw[ZOE (st:=st) (by omega)];simp[vis]
 ·rfl
theorem Sub.push(st:St):Sub st.A.length st st.push:=⟨fun lv ix _=>ZUy st lv ix,fun lv ix b hg=>by rw[ZUy]at hg;exact St.get_le hg⟩
theorem ZjY:∀ {A A':List (Bool × List Blk)} {r:Bool × List Blk},pop A=some (A',r)->A=A'++[r]
 | [],_,_,h=>by simp[pop]at h
 | [a],_,_,h=>by simp only[pop,Option.some.injEq,jP]at h;obtain⟨rfl,rfl⟩:=h;rfl
 | a::b::r,A',x,h=>by
  simp only[pop,Option.map_eq_some_iff]at h;obtain⟨⟨A1,y⟩,h1,h2⟩:=h;simp only[jP]at h2;obtain⟨rfl,rfl⟩:=h2;rw[ZjY h1];rfl
theorem ZcW{ρ2:Rho}{W2:World}{A':List (Bool × List Blk)}{r:Bool × List Blk}(hr:Rel W0 B0 st2 ρ2 W2)(he:Ev st.push ρ W st2 ρ2 W2)(hp:pop st2.A=some (A',r)):
 Goes W0 B0 st ρ W ⟨A',r.1,r.2⟩ ρ2 W2/\(cx st2 ρ2 W2 st.A.length).le (cx ⟨A',r.1,r.2⟩ ρ2 W2 st.A.length):=by
 have hA:=ZjY hp
 have hlen:A'.length=st.A.length:=by have:=he.len;rw[hA]at this;simp[St.push]at this;exact this
 have hst2:st2=⟨A'++[(r.1,r.2)],st2.ro,st2.L⟩:=by rw[<- hA]
 have hsub:Sub st.A.length st2 ⟨A',r.1,r.2⟩:=by
  refine⟨fun lv ix hlv=>?_,fun lv ix b hg=>by have:=St.get_le hg;simp only[hlen]at this;exact this⟩
  rw[hst2,St.get_push,if_neg (by omega)]
 have hA0:st.push.A[st.A.length]?=some (st.ro,st.L):=by simp[St.push]
 obtain⟨r',h1,h2,h3⟩:=he.old _ _ hA0
 have hr':r'=r:=by
  rw[hA,<- hlen]at h1
  simpa using h1.symm
 subst hr'
 refine⟨⟨hsub.rel hr,hlen,?_,?_,h2,fun hro=>?_,he.yl⟩,hsub.cx (Nat.le_refl _)⟩
 ·intro m hm
  exact ((Sub.push st).cx hm).trans ((he.le m (by simp[St.push];omega)).trans (hsub.cx hm))
 ·intro lv x hx
  have hlt:=Zm hx
  have hx':st.push.A[lv]?=some x:=by simp only[St.push];rw[jL hlt];exact hx
  obtain⟨y,k1,k2,k3⟩:=he.old _ _ hx';refine⟨y,?_,k2,k3⟩
  rw[hA,jL (by omega)]at k1
  exact k1
 ·show r'.2=st.L
  rw[h3 hro]
theorem Zw0{ρ2:Rho}{W2:World}(hr:Rel W0 B0 st2 ρ2 W2)(he:Ev { st with ro:=true } ρ W st2 ρ2 W2):
 Goes W0 B0 st ρ W { st2 with ro:=st.ro } ρ2 W2/\∀m,(cx st2 ρ2 W2 m).le (cx { st2 with ro:=st.ro } ρ2 W2 m):=by
 have hs:Sub st2.A.length st2 { st2 with ro:=st.ro }:=Sub.same (s:=st2) (t:={ st2 with ro:=st.ro }) (fun lv ix=>rfl)
 have hcx:∀m,(cx st2 ρ2 W2 m).le (cx { st2 with ro:=st.ro } ρ2 W2 m):=fun m=>.refl _
 refine⟨⟨hs.rel hr,he.len,fun m hm=>(he.le m hm).trans (hcx m),he.old,rfl,fun _=>he.cur Y,he.yl⟩,hcx⟩
theorem Qm(st:St)(lv ix:Nat):st.allRo.get lv ix=st.get lv ix:=by
 unfold St.allRo St.get;simp only[List.length_map,jG]
 split
 ·rfl
 ·cases st.A[lv]?<;>rfl
theorem Zpt{ρ2:Rho}{W2:World}(hr:Rel W0 B0 st2 ρ2 W2)(he:Ev st.allRo ρ W st2 ρ2 W2):
 Goes W0 B0 st ρ W st ρ2 W2/\∀m,m<=st.A.length->(cx st2 ρ2 W2 m).le (cx st ρ2 W2 m):=by
 have hl1:st.allRo.A.length=st.A.length:=by simp[St.allRo]
 have hlen:st2.A.length=st.A.length:=by rw[he.len,hl1]
 have hget:∀lv ix,st.get lv ix=st2.get lv ix:=by
  intro lv ix
  by_cases h1:lv=st.A.length
  ·subst h1
   have hL:st2.L=st.L:=he.cur rfl
   simp[St.get,hlen,hL]
  ·by_cases h2:lv<st.A.length
   ·have hx:st.allRo.A[lv]?=some (true,(st.A[lv]).2):=by simp[St.allRo,jE h2]
    obtain⟨y,k1,k2,k3⟩:=he.old _ _ hx
    have:=k3 rfl;subst this
    simp only[St.get,hlen,if_neg h1,k1,jE h2,Option.bind_some]
   ·rw[ZOE (by omega),ZOE (by omega)]
 have hs:Sub st.A.length st2 st:=Sub.same hget;have hs0:Sub st.allRo.A.length st st.allRo:=Sub.same (Qm st)
 refine⟨⟨hs.rel hr,rfl,?_,fun lv r h=>⟨r,h,rfl,fun _=>rfl⟩,rfl,fun _=>rfl,he.yl⟩,fun m hm=>hs.cx hm⟩
 intro m hm
 exact (hs0.cx (by omega)).trans ((he.le m (by omega)).trans (hs.cx hm))
theorem Zuo{ρ2:Rho}{W2:World}(hr:Rel W0 B0 st2 ρ2 W2)(he:Ev st.allRo.push ρ W st2 ρ2 W2):
 Rel W0 B0 ⟨st.A++[(st.ro,st.L)],st2.ro,st2.L⟩ ρ2 W2/\Ev st.push ρ W ⟨st.A++[(st.ro,st.L)],st2.ro,st2.L⟩ ρ2 W2 /\
  ∀m,m<=st2.A.length->(cx st2 ρ2 W2 m).le (cx ⟨st.A++[(st.ro,st.L)],st2.ro,st2.L⟩ ρ2 W2 m):=by
 have hl1:st.allRo.push.A.length=st.A.length+1:=by simp[St.allRo,St.push]
 have hlen:st2.A.length=st.A.length+1:=by rw[he.len,hl1]
 have hl2:(st.A++[(st.ro,st.L)]).length=st.A.length+1:=by simp
 have hold:∀(lv:Nat) (r:Bool × List Blk),(st.A++[(st.ro,st.L)])[lv]?=some r->∃y:Bool × List Blk,st2.A[lv]?=some y/\y.2=r.2:=by
  intro lv r hx
  have hx':st.allRo.push.A[lv]?=some (true,r.2):=by
   simp only[St.allRo,St.push]
   by_cases h1:lv<st.A.length
   ·rw[jL h1]at hx
    rw[jL (by simpa using h1),jG,hx];rfl
   ·rw[List.getElem?_append_right (by omega)]at hx
    rw[List.getElem?_append_right (by simp;omega)]
    have h0:lv-st.A.length=0:=by
     rcases Nat.eq_zero_or_pos (lv-st.A.length) with q|q
     ·exact q
     ·rw[List.getElem?_eq_none (by simp;omega)]at hx;simp at hx
    rw[h0]at hx;simp only[List.length_map,h0];simp only[List.getElem?_cons_zero,Option.some.injEq]at hx ⊢;rw[<- hx]
  obtain⟨y,k1,_,k3⟩:=he.old _ _ hx'
  exact⟨y,k1,by rw[k3 rfl]⟩
 have hget:∀lv ix,St.get ⟨st.A++[(st.ro,st.L)],st2.ro,st2.L⟩ lv ix=st2.get lv ix:=by
  intro lv ix
  by_cases h1:lv=st.A.length+1
  ·subst h1
   simp[St.get,hlen]
  ·by_cases h2:lv<st.A.length+1
   ·have hx:(st.A++[(st.ro,st.L)])[lv]?=some ((st.A++[(st.ro,st.L)])[lv]'(by rw[hl2];exact h2)):=jE _
    obtain⟨y,k1,k2⟩:=hold _ _ hx;simp only[St.get,hlen,hl2,if_neg h1,k1,hx,Option.bind_some,k2]
   ·rw[ZOE (by simp only[hl2];omega),ZOE (by omega)]
 have hs:Sub st2.A.length st2 ⟨st.A++[(st.ro,st.L)],st2.ro,st2.L⟩:=by
  have:=Sub.same (s:=st2) (t:=⟨st.A++[(st.ro,st.L)],st2.ro,st2.L⟩) hget
  simp only[hl2]at this;rw[hlen];exact this
 have hpu:∀lv ix,st.allRo.push.get lv ix=st.push.get lv ix:=fun lv ix=>by rw[ZUy,Qm,ZUy]
 have hs0:Sub st.allRo.push.A.length st.push st.allRo.push:=Sub.same hpu
 refine⟨hs.rel hr,⟨by simp[St.push],?_,?_,?_,fun h=>by simp[St.push]at h,he.yl⟩,fun m hm=>hs.cx hm⟩
 ·intro m hm
  simp only[St.push,hl2]at hm
  exact (hs0.cx (by omega)).trans ((he.le m (by omega)).trans (hs.cx (by omega)))
 ·intro lv r h
  exact⟨r,h,rfl,fun _=>rfl⟩
 ·have:=he.ro
  simpa [St.push] using this
end
structure Cx.Ok(C:Cx):Prop where
 ptr:∀ {lv ix ver i o v},C.ptr lv ix ver i o v->∃a,v=.pointer (some a)
 ref:∀ {lv ix ver s n v},C.ref lv ix ver s n v->∃a c,v=.slice a n c
 map:∀ {lv ix v},C.map lv ix v->∃r,v=.map (some r)
theorem XN(st:St)(ρ:Rho)(W:World)(m:Nat):(cx st ρ W m).Ok :=
 ⟨fun h=>h.2.2.1,fun h=>let ⟨_,_,_,a,c,e,_⟩:=h;⟨a,c,e⟩,fun h=>let ⟨_,_,r,e,_⟩:=h;⟨r,e⟩⟩
theorem ZDB(C:Cx):C.pure.Ok:=⟨fun h=>h.elim,fun h=>h.elim,fun h=>h.elim⟩
theorem ZA9(b o n:Nat):Addr.add ⟨b,o,none⟩ n=⟨b,o+n,none⟩:=by unfold Addr.add;split<;>simp_all
section
variable {C:Cx}
theorem R.single(ok:C.Ok){x:Value}(h:R C v x)(h1:v.isAny=false)(h2:∀cs,v≠.agg cs):x.cells=#[x]:=by
 cases h with
 | any=>simp[AV.isAny]at h1
 | ptr h=>obtain⟨a,rfl⟩:=ok.ptr h;rfl
 | ref h=>obtain⟨a,c,rfl⟩:=ok.ref h;rfl
 | map h=>obtain⟨r,rfl⟩:=ok.map h;rfl
 | agg hl hi=>exact absurd Y (h2 _)
 | _=>rfl
theorem R.cells(ok:C.Ok){x:Value}(h:R C v x)(h1:v.isAny=false):RL C v.cells x.cells.toList:=by
 by_cases h2:∃cs,v=.agg cs
 ·obtain⟨cs,rfl⟩:=h2
  cases h with
  | agg hl hi=>exact⟨hl,hi⟩
 ·have hs:=h.single ok h1 (fun cs e=>h2 ⟨cs,e⟩)
  rw[hs]
  have:v.cells=[v]:=by
   cases v<;>first|rfl|(exact absurd ⟨_,rfl⟩ h2)
  rw[this];exact .cons h (.nil _)
theorem R.one(ok:C.Ok){x:Value}(h:R C v x)(h1:v.one=true):x.oneCell'=true:=by
 cases h with
 | any=>simp[AV.one]at h1
 | undef=>simp[AV.one]at h1
 | agg=>simp[AV.one]at h1
 | tup=>simp[AV.one]at h1
 | ptr h=>obtain⟨a,rfl⟩:=ok.ptr h;rfl
 | ref h=>obtain⟨a,c,rfl⟩:=ok.ref h;rfl
 | map h=>obtain⟨r,rfl⟩:=ok.map h;rfl
 | _=>rfl
theorem ZcX(h:v.wide=some w):v.isAny=false:=by cases v<;>simp_all [AV.wide,AV.isAny]
theorem ZoF(h:v.wide=some w):v.cells.length=w/\∀c∈v.cells,c.one=true:=by
 cases v with
 | agg cs =>
  simp only[AV.wide]at h
  split at h
  ·rename_i ha
   simp only[Option.some.injEq]at h
   exact⟨h,fun c hc=>List.all_eq_true.1 ha c hc⟩
  ·simp at h
 | any=>simp[AV.wide]at h
 | undef=>simp[AV.wide]at h
 | tup vs=>simp[AV.wide]at h
 | _=>simp only[AV.wide,Option.some.injEq]at h;exact⟨by simpa [AV.cells] using h,fun c hc=>by simp only[AV.cells,List.mem_singleton]at hc;subst hc;rfl⟩
theorem R.wide(ok:C.Ok){x:Value}(h:R C v x)(hw:v.wide=some w):x.cells.size=w/\∀y∈x.cells.toList,y.oneCell'=true:=by
 have hc:=h.cells ok (ZcX hw);obtain⟨w1,w2⟩:=ZoF hw
 refine⟨by have h1:=hc.1;have h2:x.cells.toList.length=x.cells.size:=Array.length_toList;omega,fun y hy=>?_⟩
 obtain⟨i,hi⟩:=List.getElem?_of_mem hy;have hlt:=Zm hi;rw[<- hc.1]at hlt;exact (hc.2 i _ y (jE hlt) hi).one ok (w2 _ (List.getElem_mem hlt))
theorem partOf_ok(ok:C.Ok){e:AV}{x:Value}(h:R C e x)(hp:Jn e agg o n=some v):
 (agg=true/\o+n<=x.cells.size/\R C v (.agg ((x.cells.toList.drop o).take n).toArray))\/(agg=false/\∃y,x.cells[o]?=some y/\R C v y):=by
 unfold Jn at hp
 split at hp
 ·simp at hp
 ·rename_i ha
  have hc:=h.cells ok (by simpa using ha)
  split at hp
  ·rename_i hg
   split at hp
   ·rename_i hlen
    simp only[Option.some.injEq]at hp;subst hp
    exact .inl ⟨hg,by have h1:=hc.1;have h2:x.cells.toList.length=x.cells.size:=Array.length_toList;omega,.agg' ((hc.drop o).take n)⟩
   ·simp at hp
  ·rename_i hg
   obtain⟨y,hy,hr⟩:=hc.get hp
   exact .inr ⟨by simpa using hg,y,by simpa using hy,hr⟩
theorem ZiK{v:Value}{a:AV}(h:ZcQ v=some a):R C a v:=by
 unfold ZcQ at h
 split at h<;>simp only[Option.some.injEq,reduceCtorEq]at h<;>subst h
 ·exact .bool _
 ·exact .int _ _
 ·exact .str _
 ·exact .nilptr
 ·exact .nils _
 ·exact .nilmap
 ·exact .nilfunc
 ·exact .niliface
theorem ZjZ{α β:Type}{f:α->Option β}:∀ {l:List α} {l':List β},l.mapM f=some l'->l.length=l'.length/\∀(i:Nat) (a:α) (b:β),l[i]?=some a->l'[i]?=some b->f a=some b
 | [],l',h=>by simp at h;subst h;exact⟨rfl,by simp⟩
 | a::l,l',h=>by
  simp only[List.mapM_cons,Option.pure_def,Option.bind_eq_bind,Option.bind_eq_some_iff,Option.some.injEq]at h;obtain⟨b,hb,bs,hbs,rfl⟩:=h;obtain⟨h1,h2⟩:=ZjZ hbs
  refine⟨by simp[h1],fun i x y hx hy=>?_⟩
  cases i with
  | zero=>simp at hx hy;subst hx;subst hy;exact hb
  | succ i=>exact h2 i x y (by simpa using hx) (by simpa using hy)
theorem ZcY{v:Value}{a:AV}(h:ZUx v=some a):R C a v:=by
 unfold ZUx at h
 split at h
 ·simp only[Option.some.injEq]at h;subst h;exact .nils _
 ·rename_i cs
  simp only[Option.map_eq_some_iff]at h;obtain⟨l,hl,rfl⟩:=h;obtain⟨h1,h2⟩:=ZjZ hl
  exact .agg' (xs:=cs.toList) ⟨h1.symm,fun i v x hv hx=>ZiK (h2 i x v hx hv)⟩
 ·rename_i vs
  split at h
  ·rename_i he
   simp only[Option.some.injEq]at h;subst h
   have:vs=#[]:=by simpa using he
   subst this;exact .tup' (.nil _)
  ·simp at h
 ·rename_i f a b
  split at h
  ·rename_i he
   simp only[Option.some.injEq]at h;subst h
   have h1:a=#[]:=by simpa using he.1.1
   have h2:b=#[]:=by simpa using he.1.2
   subst h1;subst h2
   exact .func (.func f) (decide_eq_true he.2) (xs:=[]) (ys:=[]) Y Y (by simp) (by simp)
  ·simp at h
 ·exact ZiK h
def EnvR(C:Cx)(e:Env)(tmps:Array Value):Prop:=∀t,R C (look e t) (tmps.getD t Go.undef)
theorem EnvR.mono{D:Cx}{tmps:Array Value}(h:EnvR C e tmps)(k:C.le D):EnvR D e tmps:=fun t=>(h t).mono k
theorem Zt{x:Operand}{q:Opd}(h:opd x=some q){a:Act}(he:EnvR C e a.tmps):R C (q.get e) (a.eval x):=by
 cases x with
 | tmp t=>simp only[opd,Option.some.injEq]at h;subst h;exact he t
 | const v =>
  simp only[opd,Option.map_eq_some_iff]at h;obtain⟨u,hu,rfl⟩:=h;exact ZcY hu
 | global g=>simp[opd]at h
 | func f =>
  simp only[opd]at h
  split at h
  ·rename_i hy
   simp only[Option.some.injEq]at h;subst h
   exact .func (.func f) (decide_eq_true hy) (xs:=[]) (ys:=[]) Y Y (by simp) (by simp)
  ·simp at h
theorem Zby{l:List Operand}{qs:List Opd}(h:Zlv l=some qs){a:Act}(he:EnvR C e a.tmps):RL C (Xu e qs) (l.map a.eval):=by
 unfold Zlv at h
 induction l generalizing qs with
 | nil=>simp at h;subst h;exact .nil _
 | cons x l ih =>
  simp only[List.mapM_cons,Option.pure_def,Option.bind_eq_bind,Option.bind_eq_some_iff,Option.some.injEq]at h;obtain⟨b,hb,bs,hbs,rfl⟩:=h;exact .cons (Zt hb he) (ih hbs)
end
section
variable {P:Program}{W0:World}{B0:Bse}{st st':St}{ρ:Rho}{W:World}{e:Env}{a:Act}
def Fin(W0:World)(B0:Bse)(st:St)(ρ:Rho)(W:World)(r:Result Next)(v:AV)(st':St):Prop :=
 ∃nx x ρ' W',r=.ok nx W'/\(nx=.value x\/(nx=.skip/\x=Go.undef))/\Goes W0 B0 st ρ W st' ρ' W'/\R (cx st' ρ' W' st'.A.length) v x
theorem Fin.val(hr:Rel W0 B0 st ρ W){r:Result Next}{x:Value}(h:r=.ok (.value x) W)(hv:R (cx st ρ W st.A.length) v x):Fin W0 B0 st ρ W r v st :=
 ⟨_,x,ρ,W,h,.inl rfl,.refl hr,hv⟩
theorem ZBX{s:Sem Value}{x:Value}{W':World}(h:s.run P W=.ok x W'):(do pure (Next.value (<- s)):Sem Next).run P W=.ok (.value x) W':=by
 simp[h]
theorem ZsQ{s:Sem Unit}{W':World}(h:s.run P W=.ok () W'):(do s;pure Next.skip:Sem Next).run P W=.ok .skip W':=by
 simp[h]
theorem ZUz{t:TypeId}{i:TypeInfo}(h:P.info? t=some i):(typeInfo t).run P W=.ok i W:=by simp[typeInfo,h]
theorem Y6{t:TypeId}(h:sz P t=some n):(sizeOf t).run P W=.ok n W:=by
 unfold sz at h
 cases hi:P.info? t with
 | none=>rw[hi]at h;simp at h
 | some i=>rw[hi]at h;simp only[Option.map_some,Option.some.injEq]at h;simp[sizeOf,typeInfo,hi,h]
theorem Zo{t:TypeId}{d:TypeDesc}(h:P.underlying t=some d):(underlying t).run P W=.ok d W:=by simp[underlying,h]
theorem Zbz{t:TypeId}{g:Bool}(h:Yt P t=some g):(isAgg t).run P W=.ok g W:=by
 unfold Yt at h
 cases hu:P.underlying t with
 | none=>rw[hu]at h;simp at h
 | some d =>
  rw[hu]at h;simp only[Option.map_some,Option.some.injEq]at h;subst h;simp only[isAgg,Sem.run_bind,Zo hu,Result.andThen_ok]
  cases d<;>rfl
theorem ZGu{t:TypeId}{z:AV}(h:ZC9 P t=some z):∃v,(zeroValue t).run P W=.ok v W/\(∀C:Cx,R C z v)/\(P.info? t).bind (·.zero)=some v:=by
 unfold ZC9 at h
 cases hi:P.info? t with
 | none=>rw[hi]at h;simp at h
 | some i =>
  rw[hi]at h;simp only[Option.bind_some]at h
  cases hz:i.zero with
  | none=>rw[hz]at h;simp at h
  | some v =>
   rw[hz]at h;simp only[Option.bind_some]at h
   refine⟨v,?_,fun C=>ZcY h,by simp[hz]⟩
   simp[zeroValue,typeInfo,hi,hz]
theorem Ye{C:Cx}{v:Value}{k:IntKind}{n:Int}(h:R C (.int k n) v):v=.int k n:=by cases h;rfl
theorem Yf{C:Cx}{v:Value}{s:B8}(h:R C (.str s) v):v=.string ⟨s.toArray⟩:=by cases h;rfl
theorem Yg{C:Cx}{v:Value}{b:Bool}(h:R C (.bool b) v):v=.bool b:=by cases h;rfl
theorem JP(l:B8):(ByteArray.mk l.toArray).toList=l:=by
 rw[ByteArray.toList_eq]
theorem ZcZ(x y:Int):(x == y)=decide (x=y):=by rw[Bool.eq_iff_iff];simp
theorem ZU0(x y:B8):(x == y)=decide (x=y):=by rw[Bool.eq_iff_iff];simp
theorem Zb0(x y:B8):(!decide (x=y))=decide (x≠y):=by simp
theorem ZBA(l:B8):(ByteArray.mk l.toArray).size=l.length:=by simp[ByteArray.size]
theorem Zqu{op:BinOp}{k:IntKind}{x y:Int}(h:ZIS op k x y=some v)(hs:ZjM op=false)(t:TypeId):
 ∃z,(binOp op t (.int k x) (.int k y)).run P W=.ok z W/\∀C,R C v z:=by
 cases op<;>simp only[ZIS,Option.some.injEq,reduceCtorEq,ZjM]at h hs<;>try contradiction
 case add=>subst h;exact⟨_,by simp[binOp,Op.intArith],fun _=>.int _ _⟩
 case sub=>subst h;exact⟨_,by simp[binOp,Op.intArith],fun _=>.int _ _⟩
 case mul=>subst h;exact⟨_,by simp[binOp,Op.intArith],fun _=>.int _ _⟩
 case quo =>
  split at h
  ·simp at h
  ·rename_i hy
   simp only[Option.some.injEq]at h;subst h
   exact⟨_,by simp[binOp,Op.intDiv,hy],fun _=>.int _ _⟩
 case rem =>
  split at h
  ·simp at h
  ·rename_i hy
   simp only[Option.some.injEq]at h;subst h
   exact⟨_,by simp[binOp,Op.intDiv,hy],fun _=>.int _ _⟩
 case and=>subst h;exact⟨_,by simp[binOp,Op.intBits],fun _=>.int _ _⟩
 case or=>subst h;exact⟨_,by simp[binOp,Op.intBits],fun _=>.int _ _⟩
 case xor=>subst h;exact⟨_,by simp[binOp,Op.intBits],fun _=>.int _ _⟩
 case eql=>subst h;exact⟨.bool (decide (x=y)),by simp[binOp,Op.intCmp,ZcZ],fun _=>.bool _⟩
 case neq=>subst h;exact⟨.bool (decide (x≠y)),by simp[binOp,Op.intCmp,bne,ZcZ],fun _=>.bool _⟩
 case lss=>subst h;exact⟨_,by simp[binOp,Op.intCmp],fun _=>.bool _⟩
 case leq=>subst h;exact⟨_,by simp[binOp,Op.intCmp],fun _=>.bool _⟩
 case gtr=>subst h;exact⟨_,by simp[binOp,Op.intCmp],fun _=>.bool _⟩
 case geq=>subst h;exact⟨_,by simp[binOp,Op.intCmp],fun _=>.bool _⟩
theorem ZsR{op:BinOp}{k k':IntKind}{x y:Int}(h:ZsA op k x y=some v)(t:TypeId):
 ∃z,(binOp op t (.int k x) (.int k' y)).run P W=.ok z W/\∀C,R C v z:=by
 unfold ZsA at h
 split at h
 ·simp at h
 ·rename_i hy
  cases op<;>simp only[Option.some.injEq,reduceCtorEq]at h
  case shl=>subst h;exact⟨_,by simp[binOp,Op.shift,hy],fun _=>.int _ _⟩
  case shr=>subst h;exact⟨_,by simp[binOp,Op.shift,hy],fun _=>.int _ _⟩
theorem Zqv{op:BinOp}{x y:B8}(h:ZW2 op x y=some v)(t:TypeId):
 ∃z,(binOp op t (.string ⟨x.toArray⟩) (.string ⟨y.toArray⟩)).run P W=.ok z W/\∀C,R C v z:=by
 have hb:∀z:Value,(Op.stringOp op ⟨x.toArray⟩ ⟨y.toArray⟩).run P W=.ok z W->(binOp op t (.string ⟨x.toArray⟩) (.string ⟨y.toArray⟩)).run P W=.ok z W:=by
  intro z hz;rw[<- hz]
  cases op<;>rfl
 cases op<;>simp only[ZW2,Option.some.injEq,reduceCtorEq]at h
 case add =>
  split at h
  ·rename_i hl
   simp only[Option.some.injEq]at h;subst h
   refine⟨.string ⟨(x++y).toArray⟩,hb _ ?_,fun _=>.str _⟩
   have h1:¬ ((((ByteArray.mk x.toArray).size+(ByteArray.mk y.toArray).size:Nat):Int) > IntKind.i64.max):=by
    rw[ZBA,ZBA]
    have:IntKind.i64.max=9223372036854775807:=by decide
    omega
   have h2:(ByteArray.mk x.toArray)++(ByteArray.mk y.toArray)=⟨(x++y).toArray⟩:=by
    apply ByteArray.ext;simp
   simp only[Op.stringOp,if_neg h1,Sem.run_pure,h2]
  ·simp at h
 case eql=>subst h;exact⟨.bool (decide (x=y)),hb _ (by simp only[Op.stringOp,JP,Sem.run_pure,ZU0,Zb0]),fun _=>.bool _⟩
 case neq=>subst h;exact⟨.bool (decide (x≠y)),hb _ (by simp only[Op.stringOp,JP,Sem.run_pure,ZU0,Zb0]),fun _=>.bool _⟩
 case lss=>subst h;exact⟨_,hb _ (by simp only[Op.stringOp,JP,Sem.run_pure]),fun _=>.bool _⟩
 case leq=>subst h;exact⟨.bool (Op.bytesLess x y || decide (x=y)),hb _ (by simp only[Op.stringOp,JP,Sem.run_pure,ZU0,Zb0]),fun _=>.bool _⟩
 case gtr=>subst h;exact⟨.bool (!(Op.bytesLess x y || decide (x=y))),hb _ (by simp only[Op.stringOp,JP,Sem.run_pure,ZU0,Zb0]),fun _=>.bool _⟩
 case geq=>subst h;exact⟨_,hb _ (by simp only[Op.stringOp,JP,Sem.run_pure]),fun _=>.bool _⟩
theorem ZU1{op:BinOp}{t:TypeId}{x y:Operand}{u v:Value}(h:¬ (u=.nilIface/\v=.nilIface))(h2:∀xs ys,u=.agg xs->v=.agg ys->P.eqGuardType P.depth t=false):
 (eqGuard op t x y u v).run P W=.ok () W:=by
 have key:(match u,v with
  | .nilIface, .nilIface => (do if (x matches .const _) || (y matches .const _) then return
                                if <- Op.eqGuardIn Op.maxDepth t u v then unsupported (.noEntry "binop/eql: two nil values of an interface type with methods, neither of them the literal nil") : Sem Unit)
  | .agg _, .agg _ => (do if !(<- program).eqGuardType (<- program).depth t then return
                          if <- Op.eqGuardIn Op.maxDepth t u v then unsupported (.noEntry "binop/eql: two nil values of an interface type with methods, in a part of a struct or an array") : Sem Unit)
  | _,_=>pure ()).run P W=.ok () W:=by
  split
  ·exact absurd ⟨rfl,rfl⟩ h
  ·simp[h2 _ _ rfl rfl]
  ·simp
 cases op<;>first|exact key|rfl
theorem Zup{op:BinOp}{x y:AV}(h:ZIT op x y=some v){t:TypeId}{ox oy:Operand}{u w:Value}{C:Cx}(hu:R C x u)(hw:R C y w):
 ∃z,(do eqGuard op t ox oy u w;binOp op t u w:Sem Value).run P W=.ok z W/\∀C,R C v z:=by
 have key:∃z,(binOp op t u w).run P W=.ok z W/\∀C,R C v z:=by
  unfold ZIT at h
  split at h
  ·have:=Ye hu;subst this
   have:=Ye hw;subst this
   split at h
   ·exact ZsR h t
   ·rename_i hs
    split at h
    ·rename_i hk;subst hk
     exact Zqu h (by simpa using hs) t
    ·simp at h
  ·have:=Yf hu;subst this
   have:=Yf hw;subst this
   exact Zqv h t
  ·simp at h
 have hg:(eqGuard op t ox oy u w).run P W=.ok () W:=by
  unfold ZIT at h
  split at h
  ·have:=Ye hu;subst this
   exact ZU1 (by simp) (by simp)
  ·have:=Yf hu;subst this
   exact ZU1 (by simp) (by simp)
  ·simp at h
 obtain⟨z,hz,hv⟩:=key
 exact⟨z,by simp only[Sem.run_bind,hg,Result.andThen_ok];exact hz,hv⟩
end
section
variable {P:Program}{W0:World}{B0:Bse}{st st':St}{ρ:Rho}{W:World}{e:Env}{a:Act}
theorem ZsS{C:Cx}{x y c:AV}(h:Zpp x y c=some v){u w b:Value}(hx:R C x u)(hy:R C y w)(hc:R C c b):
 ∃t,b=.bool t/\R C v (if t=true then u else w):=by
 unfold Zpp at h
 split at h
 ·simp only[Option.some.injEq]at h;subst h
  have:=Yg hc;subst this
  refine⟨_,rfl,?_⟩
  split<;>assumption
 ·simp at h
theorem Zqw{C:Cx}(ok:C.Ok){x:AV}(h:ZcH x=some v){u:Value}(hx:R C x u)(ρ':Operand->Value)(o:Oper)(q:Operand)(ho:o.op=.nilCheck q)(hq:ρ' q=u):
 (execOp ρ' o).run P W=.ok (.value u) W/\R C v u:=by
 unfold ZcH at h
 split at h<;>simp only[Option.some.injEq,reduceCtorEq]at h<;>subst h
 ·refine⟨?_,hx⟩
  cases hx with
  | ptr hp=>obtain⟨b,rfl⟩:=ok.ptr hp;simp[execOp,ho,hq]
 ·refine⟨?_,hx⟩
  cases hx with
  | lptr=>simp[execOp,ho,hq]
 ·refine⟨?_,hx⟩
  cases hx with
  | func=>simp[execOp,ho,hq]
theorem Zw1{op:UnOp}{x:AV}(h:unV op x=some v){C:Cx}{u:Value}(hx:R C x u):∃z,(Op.unary op u).run P W=.ok z W/\∀D,R D v z:=by
 unfold unV at h
 split at h<;>simp only[Option.some.injEq,reduceCtorEq]at h<;>subst h
 ·have:=Ye hx;subst this;exact⟨_,by simp[Op.unary,Op.intArith],fun _=>.int _ _⟩
 ·have:=Yg hx;subst this;exact⟨_,by simp[Op.unary],fun _=>.bool _⟩
theorem Zpu{mx:Bool}{x y:AV}(h:Zuf mx x y=some v){C:Cx}{u w:Value}(hx:R C x u)(hy:R C y w)(at_:Array TypeId)(t:TypeId):
 ∃z,(if mx=true then Builtin.max_ at_ t #[u,w] else Builtin.min_ at_ t #[u,w]).run P W=.ok z W/\∀D,R D v z:=by
 unfold Zuf at h
 split at h
 ·split at h
  ·rename_i hk;subst hk
   simp only[Option.some.injEq]at h;subst h
   have:=Ye hx;subst this
   have:=Ye hy;subst this
   cases mx
   ·exact⟨_,by simp[Builtin.min_,Builtin.min2],fun _=>.int _ _⟩
   ·exact⟨_,by simp[Builtin.max_,Builtin.max2],fun _=>.int _ _⟩
  ·simp at h
 ·simp at h
theorem Zuq{C:Cx}{x:AV}(h:Zug i x=some v){u:Value}(hx:R C x u):∃z,(Instr.extract u i).run P W=.ok z W/\R C v z:=by
 unfold Zug at h
 split at h
 ·cases hx with
  | @tup _ cs xs hl hi =>
   obtain⟨y,hy,hr⟩:=RL.get ⟨hl,hi⟩ h
   exact⟨y,by simp[Instr.extract,hy],hr⟩
 ·simp at h
theorem ZsT{k:IntKind}{x:AV}(h:Zlk k x=some v){C:Cx}{u:Value}(hx:R C x u){s d:TypeId}{k0:IntKind}(hs:P.underlying s=some (.int k0))(hd:P.underlying d=some (.int k)):
 ∃z,(convert s d u).run P W=.ok z W/\∀D,R D v z:=by
 unfold Zlk at h
 split at h
 ·simp only[Option.some.injEq]at h;subst h
  have:=Ye hx;subst this
  exact⟨_,by simp[convert,Zo hs,Zo hd,Conv.intToInt],fun _=>.int _ _⟩
 ·simp at h
theorem ZsU{x:AV}(h:ZsC x=some v){C:Cx}{u:Value}(hx:R C x u){s d:TypeId}(hs:P.underlying s=some .string)(hd:P.underlying d=some .string):
 ∃z,(convert s d u).run P W=.ok z W/\∀D,R D v z:=by
 unfold ZsC at h
 split at h
 ·simp only[Option.some.injEq]at h;subst h
  have:=Yf hx;subst this
  exact⟨_,by simp[convert,Zo hs,Zo hd],fun _=>.str _⟩
 ·simp at h
theorem Zca{t:TypeId}(ha:Yt P t=some true)(hs:sz P t=some n){cs:Array Value}:(part t cs o).run P W=.ok (.agg (cs.extract o (o+n))) W:=by
 simp[part,Zbz ha,Y6 hs]
theorem Zcb{t:TypeId}(ha:Yt P t=some false){cs:Array Value}{y:Value}(hy:cs[o]?=some y):(part t cs o).run P W=.ok y W:=by
 simp[part,Zbz ha,hy]
theorem ZTZ(cs:Array Value)(o n:Nat):cs.extract o (o+n)=((cs.toList.drop o).take n).toArray:=by
 apply Array.ext'
 simp[List.extract_eq_take_drop]
theorem Zpv{C:Cx}(ok:C.Ok){ev:AV}{x:Value}(h:R C ev x){t:TypeId}(ha:Yt P t=some agg)(hs:sz P t=some n)(hp:Jn ev agg o n=some v):
 ∃z,(part t x.cells o).run P W=.ok z W/\R C v z:=by
 rcases partOf_ok ok h hp with⟨hg,_,hr⟩|⟨hg,y,hy,hr⟩
 ·subst hg
  exact⟨_,Zca ha hs,by rw[ZTZ];exact hr⟩
 ·subst hg
  exact⟨y,Zcb ha hy,hr⟩
theorem Zur{C:Cx}(ok:C.Ok){x:AV}{off:Nat}(h:Zud agg off n x=some v){u:Value}(hx:R C x u){t:TypeId}{fs:Array Field}{f:Nat}{q:Field}
 (ht:P.underlying t=some (.struct fs)) (hq:fs[f]?=some q) (ho:q.offset=off) (ha:Yt P q.type=some agg) (hs:sz P q.type=some n) :
 ∃z,(Instr.field t u f).run P W=.ok z W/\R C v z:=by
 unfold Zud at h
 split at h
 ·have hx':=hx
  cases hx with
  | @agg _ cs xs hl hi =>
   obtain⟨z,hz,hr⟩:=Zpv (P:=P) (W:=W) ok hx' ha hs h;refine⟨z,?_,hr⟩;subst ho
   have:(Value.agg xs.toArray).cells=xs.toArray:=rfl
   rw[this]at hz
   simp[Instr.field,Zo ht,hq,asAgg,hz]
 ·simp at h
theorem ZBB{len:Nat}{i:AV}(h:XB len i=some n){C:Cx}{u:Value}(hu:R C i u):∃k m,u=.int k m/\0<=m/\m<len/\m.toNat=n:=by
 unfold XB at h
 split at h
 ·split at h
  ·rename_i hc
   simp only[Option.some.injEq]at h;exact⟨_,_,Ye hu,hc.1,hc.2,h⟩
  ·simp at h
 ·simp at h
theorem Zqx{C:Cx}(ok:C.Ok){len:Nat}{i x:AV}(h:ZjP agg len w i x=some v){u j:Value}(hx:R C x u)(hi:R C i j){t el:TypeId}
 (ht:P.underlying t=some (.array len el)) (ha:Yt P el=some agg) (hs:sz P el=some w):∃z,(Instr.index t u j).run P W=.ok z W/\R C v z:=by
 unfold ZjP at h
 split at h
 ·simp only[Option.bind_eq_some_iff]at h
  obtain⟨n,hn,hp⟩:=h;obtain⟨k,m,rfl,h1,h2,h3⟩:=ZBB hn hi;have hx':=hx
  cases hx with
  | @agg _ cs xs hl hi =>
   obtain⟨z,hz,hr⟩:=Zpv (P:=P) (W:=W) ok hx' ha hs hp;refine⟨z,?_,hr⟩
   have:(Value.agg xs.toArray).cells=xs.toArray:=rfl
   rw[this]at hz
   simp[Instr.index,asIntOf,Zo ht,h1,h2,Y6 hs,h3,hz]
 ·simp at h
theorem Zqy{C:Cx}{i x:AV}(h:ZjO i x=some v){u j:Value}(hx:R C x u)(hi:R C i j){t:TypeId}(ht:P.underlying t=some .string):
 ∃z,(Instr.index t u j).run P W=.ok z W/\∀D,R D v z:=by
 unfold ZjO at h
 split at h
 ·simp only[Option.bind_eq_some_iff,Option.some.injEq]at h
  obtain⟨n,hn,b,hb,rfl⟩:=h;obtain⟨k,m,rfl,h1,h2,h3⟩:=ZBB hn hi
  have:=Yf hx;subst this
  refine⟨_,?_,fun _=>.int _ _⟩
  rename_i s
  have hlt:=Zm hb
  have hg:(ByteArray.mk s.toArray)[n]?=some b:=by
   rw[getElem?_pos _ _ (by rw[ZBA];exact hlt)]
   rw[jE hlt]at hb;simp only[Option.some.injEq]at hb;rw[<- hb];rfl
  simp[Instr.index,asIntOf,Zo ht,h1,h3,hg]
 ·simp at h
theorem ZsV{off:Nat}{x:AV}(h:Zll off x=some v){u:Value}(hx:R (cx st ρ W st.A.length) x u){t:TypeId}{fs:Array Field}{f:Nat}{q:Field}
 (ht:P.underlying t=some (.struct fs)) (hq:fs[f]?=some q) (ho:q.offset=off) (hs:sz P q.type=some n) (hn:n≠0) :
 ∃z,(Instr.fieldAt t u f).run P W=.ok z W/\R (cx st ρ W st.A.length) v z:=by
 have hrun:∀b:Addr,(Instr.fieldAt t (.pointer (some b)) f).run P W=.ok (.pointer (some (b.add q.offset))) W:=by
  intro b
  simp[Instr.fieldAt,Zo ht,hq,Instr.sureAddr,fieldPlace,Y6 hs,hn]
 unfold Zll at h
 split at h<;>simp only[Option.some.injEq,reduceCtorEq]at h<;>subst h
 ·cases hx with
  | ptr hp =>
   obtain⟨h1,h2,⟨b,rfl⟩,h4,h5⟩:=hp
   refine⟨_,hrun b,.ptr ⟨h1,h2,⟨_,rfl⟩,h4,fun w es hg=>?_⟩⟩
   have:=h5 w es hg
   simp only[Value.pointer.injEq,Option.some.injEq]at this;subst this;rw[ZA9,ho]
   simp[Nat.add_assoc]
 ·cases hx with
  | lptr hv hl =>
   refine⟨_,hrun _,?_⟩;rw[ZA9,ho,Nat.add_assoc];exact .lptr hv hl
theorem Zus{len:Nat}{i x:AV}(h:Zue len w i x=some v){u j:Value}(hx:R (cx st ρ W st.A.length) x u)(hi:R (cx st ρ W st.A.length) i j){t el:TypeId}
 (ht:P.underlying t=some (.array len el)) (hs:sz P el=some w):∃z,(Instr.indexAt t u j).run P W=.ok z W/\R (cx st ρ W st.A.length) v z:=by
 have hrun:∀(b:Addr) (k:IntKind) (m:Int),0<=m->m<len->(Instr.indexAt t (.pointer (some b)) (.int k m)).run P W=.ok (.pointer (some (b.add (m.toNat*w)))) W:=by
  intro b k m h1 h2
  simp[Instr.indexAt,asIntOf,Zo ht,Instr.sureAddr,h1,h2,Y6 hs]
 unfold Zue at h
 split at h
 ·simp only[Option.bind_eq_some_iff,Option.some.injEq]at h
  obtain⟨n,hn,rfl⟩:=h;obtain⟨k,m,rfl,q1,q2,q3⟩:=ZBB hn hi
  cases hx with
  | ptr hp =>
   obtain⟨h1,h2,⟨b,rfl⟩,h4,h5⟩:=hp
   refine⟨_,hrun b k m q1 q2,.ptr ⟨h1,h2,⟨_,rfl⟩,h4,fun w' es hg=>?_⟩⟩
   have:=h5 w' es hg
   simp only[Value.pointer.injEq,Option.some.injEq]at this;subst this;rw[ZA9,q3]
   simp[Nat.add_assoc]
 ·simp only[Option.bind_eq_some_iff,Option.some.injEq]at h
  obtain⟨n,hn,rfl⟩:=h;obtain⟨k,m,rfl,q1,q2,q3⟩:=ZBB hn hi
  cases hx with
  | lptr hv hl =>
   refine⟨_,hrun _ k m q1 q2,?_⟩;rw[ZA9,q3,Nat.add_assoc];exact .lptr hv hl
 ·simp at h
theorem ZsW{b:Option Blk}(h:wIs w ver b=true):∃es,b=some (.arr w ver es):=by
 unfold wIs at h
 split at h
 ·simp only[Bool.and_eq_true,beq_iff_eq]at h
  obtain⟨rfl,rfl⟩:=h;exact⟨_,rfl⟩
 ·simp at h
theorem ZFz{C:Cx}{v:Value}(h:R C (.lit es) v):∃a c,v=.slice a es.length c/\es.length<=c /\
 (es=[]\/∃(b o w:Nat) (xs:Nat->Value),a=some ⟨b,o,none⟩/\(∀(i:Nat) (e:AV),es[i]?=some e->R C.pure e (xs i))/\∀i,i<es.length->(xs i:Value).cells.size=w/\Lies C.im b (o+i*w) (xs i)):=by
 cases h with
 | lit0 a c=>exact⟨a,c,rfl,by simp,.inl Y⟩
 | lit xs h hl hc=>exact⟨_,_,rfl,hc,.inr ⟨_,_,_,xs,rfl,h,hl⟩⟩
theorem Zut{i x:AV}(hr:Rel W0 B0 st ρ W)(h:ixSV st w i x=some v){u j:Value}(hx:R (cx st ρ W st.A.length) x u)(hi:R (cx st ρ W st.A.length) i j){t el:TypeId}
 (ht:P.underlying t=some (.slice el)) (hs:sz P el=some w):∃z,(Instr.indexAt t u j).run P W=.ok z W/\R (cx st ρ W st.A.length) v z:=by
 have hrun:∀(b:Addr) (k:IntKind) (m:Int) (n c:Nat),0<=m->m<n->(Instr.indexAt t (.slice (some b) n c) (.int k m)).run P W=.ok (.pointer (some (b.add (m.toNat*w)))) W:=by
  intro b k m n c h1 h2
  simp[Instr.indexAt,asIntOf,Zo ht,h1,h2,Y6 hs]
 unfold ixSV at h
 split at h
 ·rename_i es
  simp only[Option.bind_eq_some_iff]at h;obtain⟨n,hn,el',he,h⟩:=h
  split at h
  ·rename_i hw
   simp only[Option.some.injEq]at h;subst h;obtain⟨k,m,rfl,q1,q2,q3⟩:=ZBB hn hi;obtain⟨a',c,rfl,hc,hcase⟩:=ZFz hx
   rcases hcase with rfl|⟨b,o,w',xs,rfl,g1,g2⟩
   ·simp at he
   ·have hlt:=Zm he
    obtain⟨g3,g4⟩:=g2 n hlt
    have hw':w'=w:=by
     have:=((g1 n el' he).wide (ZDB _) hw).1
     omega
    subst hw';refine⟨_,hrun _ k m _ _ q1 q2,?_⟩;rw[ZA9,q3]
    have:=R.lptr (C:=cx st ρ W st.A.length) (o:=0) (g1 n el' he) g4
    simpa using this
  ·simp at h
 ·rename_i lv ix ver s m
  simp only[Option.bind_eq_some_iff]at h;obtain⟨n,hn,h⟩:=h
  split at h
  ·rename_i hw
   simp only[Option.some.injEq]at h;subst h;obtain⟨es,hg⟩:=ZsW hw;obtain⟨k,q,rfl,q1,q2,q3⟩:=ZBB hn hi
   cases hx with
   | ref hp =>
    obtain⟨h1,h2,h3,a',c,rfl,h4⟩:=hp;obtain⟨g1,g2,g3⟩:=h4 w es hg;have hal:=(hr.arr lv ix w ver es hg).len
    have:=g3 (by omega)
    subst this
    refine⟨_,hrun _ k q _ _ q1 q2,.ptr ⟨h1,h2,⟨_,rfl⟩,h3,fun w' es' hg'=>?_⟩⟩
    rw[hg]at hg';simp only[Option.some.injEq,Blk.arr.injEq]at hg';obtain⟨rfl,_,rfl⟩:=hg';rw[ZA9,q3]
    simp[Nat.add_mul,Nat.add_assoc]
  ·simp at h
 ·simp at h
def Zlz(C:Cx):Option AV->Option Value->Prop
 | none,none=>True
 | some a,some v=>R C a v
 | _,_=>False
theorem ZiL{y d:Nat}{o:Option AV}(h:Jy y d o=some n){C:Cx}{q:Option Value}(hq:Zlz C o q):
 (q=none/\n=d)\/∃k m,q=some (.int k m)/\0<=m/\m<=y/\m.toNat=n:=by
 unfold Jy at h
 split at h
 ·simp only[Option.some.injEq]at h
  cases q with
  | none=>exact .inl ⟨rfl,h.symm⟩
  | some v=>exact hq.elim
 ·split at h
  ·rename_i hc
   simp only[Option.some.injEq]at h
   cases q with
   | none=>exact hq.elim
   | some v=>exact .inr ⟨_,_,by rw[Ye hq],hc.1,hc.2,h⟩
  ·simp at h
 ·simp at h
theorem ZQ4{isS:Bool}{len cap l h:Nat}{lo hi:Option AV}{C:Cx}{p q:Option Value}(hb:Jy len len hi=some h)(hl:Jy h 0 lo=some l)(hlen:len<=cap)
 (hp:Zlz C lo p) (hq:Zlz C hi q) :
 (Instr.sliceBounds isS len cap p q none).run P W=.ok (l,h,cap) W/\l<=h/\h<=len:=by
 have hh:(q=none/\h=len)\/∃k m,q=some (.int k m)/\0<=m/\m<=len/\m.toNat=h:=ZiL hb hq;have hll:(p=none/\l=0)\/∃k m,p=some (.int k m)/\0<=m/\m<=h/\m.toNat=l:=ZiL hl hp
 have e1:l<=h:=by rcases hll with⟨_,h2⟩|⟨k,m,_,h3,h4,h5⟩<;>omega
 have e2:h<=len:=by rcases hh with⟨_,h2⟩|⟨k,m,_,h3,h4,h5⟩<;>omega
 refine⟨?_,e1,e2⟩
 rcases hh with⟨rfl,rfl⟩|⟨k,m,rfl,h3,h4,rfl⟩
 ·rcases hll with⟨rfl,rfl⟩|⟨k',m',rfl,h6,h7,rfl⟩
  ·simp[Instr.sliceBounds]
  ·simp[Instr.sliceBounds,Instr.sliceBound,asIntOf,h6,h7]
 ·have h4':m<=cap:=by omega
  rcases hll with⟨rfl,rfl⟩|⟨k',m',rfl,h6,h7,rfl⟩
  ·simp[Instr.sliceBounds,Instr.sliceBound,asIntOf,h3,h4']
  ·have h7':m'<=((m.toNat:Nat):Int):=h7
   simp only[Instr.sliceBounds,Instr.sliceBound,asIntOf,Sem.run_bind,Sem.run_pure,Result.andThen_ok,Sem.run_ite,if_pos (show 0<=m/\m<=(cap:Int) from ⟨h3,h4'⟩),if_pos (show 0<=m'/\m'<=((m.toNat:Nat):Int) from ⟨h6,h7'⟩)]
end
section
variable {P:Program}{W0:World}{B0:Bse}{st st':St}{ρ:Rho}{W:World}{e:Env}{a:Act}
theorem ZTD(s:B8)(l h:Nat):(ByteArray.mk s.toArray).extract l h=⟨((s.drop l).take (h-l)).toArray⟩:=by
 apply ByteArray.ext
 rw[ByteArray.data_extract]
 apply Array.ext'
 simp[List.extract_eq_take_drop]
theorem ZsX{C:Cx}{lo hi:Option AV}{x:AV}(h:Zpq lo hi x=some v){u:Value}(hx:R C x u){p q:Option Value}(hp:Zlz C lo p)(hq:Zlz C hi q){t:TypeId}
 (ht:P.underlying t=some .string):∃z,(Instr.sliceAt t u p q none).run P W=.ok z W/\∀D,R D v z:=by
 unfold Zpq at h
 split at h
 ·rename_i s
  simp only[Option.bind_eq_some_iff,Option.some.injEq]at h;obtain⟨hh,hb,l,hl,rfl⟩:=h
  have:=Yf hx;subst this
  obtain⟨hrun,_,_⟩:=ZQ4 (P:=P) (W:=W) (isS:=false) (cap:=s.length) hb hl (Nat.le_refl _) hp hq
  refine⟨_,?_,fun _=>.str _⟩
  simp[Instr.sliceAt,Instr.slice,Zo ht,ZBA,hrun,ZTD]
 ·simp at h
theorem Zuu(hr:Rel W0 B0 st ρ W){lo hi:Option AV}{x:AV}(h:slcV st w lo hi x=some v){u:Value}(hx:R (cx st ρ W st.A.length) x u){p q:Option Value}
 (hp:Zlz (cx st ρ W st.A.length) lo p) (hq:Zlz (cx st ρ W st.A.length) hi q) {t el:TypeId} (ht:P.underlying t=some (.slice el)) (hs:sz P el=some w) (hw0:w≠0) :
 ∃z,(Instr.sliceAt t u p q none).run P W=.ok z W/\R (cx st ρ W st.A.length) v z:=by
 have hrun:∀(b:Option Addr) (n c l h':Nat),(Instr.sliceBounds true n c p q none).run P W=.ok (l,h',c) W ->
  (Instr.sliceAt t (.slice b n c) p q none).run P W=.ok (.slice (if c=l then b else b.map (·.add (l*w))) (h'-l) (c-l)) W:=by
  intro b n c l h' hb
  simp[Instr.sliceAt,Instr.slice,Zo ht,hb,Y6 hs]
 unfold slcV at h
 split at h
 ·rename_i es
  simp only[Option.bind_eq_some_iff]at h;obtain⟨hh,hb,l,hl,h⟩:=h
  split at h
  ·rename_i hsw
   simp only[Option.some.injEq]at h;subst h;obtain⟨a',c,rfl,hc,hcase⟩:=ZFz hx;obtain⟨hbr,e1,e2⟩:=ZQ4 (P:=P) (W:=W) (isS:=true) (cap:=c) hb hl hc hp hq;refine⟨_,hrun _ _ _ _ _ hbr,?_⟩
   have hlen:((es.drop l).take (hh-l)).length=hh-l:=by simp;omega
   suffices hsuf:R (cx st ρ W st.A.length) (.lit ((es.drop l).take (hh-l))) (.slice (if c=l then a' else a'.map (·.add (l*w))) ((es.drop l).take (hh-l)).length (c-l)) by rwa [hlen]at hsuf
   rcases hcase with rfl|⟨b,o,w',xs,rfl,g1,g2⟩
   ·simp only[List.drop_nil,List.take_nil,List.length_nil];exact .lit0 _ _
   ·refine ZjX (c:=c-l) (b:=b) (o:=o+l*w) (w:=w) (xs:=(List.range (hh-l)).map fun i=>xs (l+i)) ?_ ?_ (by rw[hlen];omega) ?_
    ·refine⟨by rw[hlen];simp,fun i e y he hy=>?_⟩
     have hi:=Zm he;rw[hlen]at hi;rw[List.getElem?_take,if_pos hi,List.getElem?_drop]at he;rw[jG,List.getElem?_range hi]at hy;simp only[Option.map_some,Option.some.injEq]at hy;subst hy;exact g1 _ _ he
    ·intro i y hy
     have hi:=Zm hy;simp only[List.length_map,List.length_range]at hi;rw[jG,List.getElem?_range hi]at hy;simp only[Option.map_some,Option.some.injEq]at hy;subst hy
     have hli:l+i<es.length:=by omega
     obtain⟨g3,g4⟩:=g2 (l+i) hli;have hel:=g1 (l+i) _ (jE hli)
     have hwi:(es[l+i]).wide=some w:=by
      have:=List.all_eq_true.1 hsw _ (List.getElem_mem hli)
      simpa using this
     have:=(hel.wide (ZDB _) hwi).1
     have hww:w'=w:=by omega
     subst hww;refine⟨g3,?_⟩
     rw[show o+l*w'+i*w'=o+(l+i)*w' by rw[Nat.add_mul];omega]
     exact g4
    ·intro hpos
     rw[hlen]at hpos
     rw[if_neg (by omega)]
     simp[ZA9]
  ·simp at h
 ·simp only[Option.bind_eq_some_iff,Option.some.injEq]at h
  obtain⟨hh,hb,l,hl,rfl⟩:=h
  cases hx with
  | nils b =>
   obtain⟨hbr,e1,e2⟩:=ZQ4 (P:=P) (W:=W) (isS:=true) (cap:=0) hb hl (Nat.le_refl _) hp hq;refine⟨_,hrun _ _ _ _ _ hbr,?_⟩
   have:hh=0:=by omega
   have:l=0:=by omega
   subst_vars
   exact .nils _
 ·rename_i lv ix ver s n
  simp only[Option.bind_eq_some_iff]at h;obtain⟨hh,hb,l,hl,h⟩:=h
  split at h
  ·rename_i hw
   simp only[Option.some.injEq]at h;subst h;obtain⟨es,hg⟩:=ZsW hw
   cases hx with
   | ref hpp =>
    obtain⟨h1,h2,h3,a',c,rfl,h4⟩:=hpp;obtain⟨g1,g2,g3⟩:=h4 w es hg;have hal:=(hr.arr lv ix w ver es hg).len
    obtain⟨hbr,e1,e2⟩:=ZQ4 (P:=P) (W:=W) (isS:=true) (cap:=c) hb hl (by omega) hp hq
    refine⟨_,hrun _ _ _ _ _ hbr,.ref ⟨h1,h2,h3,_,_,rfl,fun w' es' hg'=>?_⟩⟩
    rw[hg]at hg';simp only[Option.some.injEq,Blk.arr.injEq]at hg';obtain⟨rfl,_,rfl⟩:=hg'
    refine⟨by omega,by omega,fun hlt=>?_⟩
    rw[if_neg (by omega),g3 (by omega)]
    simp[ZA9,Nat.add_mul,Nat.add_assoc]
  ·simp at h
 ·simp at h
theorem Zcc{C:Cx}(ok:C.Ok){ev:AV}{x:Value}(h:R C ev x){t:TypeId}{p:Nat}(ha:Yt P t=some agg)(hs:sz P t=some n)
 (hp:Jn ev agg o n=some v) (hl:Lies (Qb W) b p x):∃z,(loadVar t ⟨b,p+o,none⟩).run P W=.ok z W/\R C v z:=by
 rcases partOf_ok ok h hp with⟨hg,hlen,hr⟩|⟨hg,y,hy,hr⟩
 ·subst hg
  refine⟨_,?_,hr⟩
  have hl2:((x.cells.toList.drop o).take n).length=n:=by
   have:x.cells.toList.length=x.cells.size:=Array.length_toList
   simp only[List.length_take,List.length_drop];omega
  have:=run_loadCells_list (P:=P) W ⟨b,p+o,none⟩ ((x.cells.toList.drop o).take n) (fun j v hv=>by
   rw[ZA9];rw[List.getElem?_take]at hv
   split at hv
   ·rw[List.getElem?_drop]at hv
    have:=hl (o+j) v (by simpa using hv)
    rw[show p+o+j=p+(o+j) by omega]
    exact this
   ·simp at hv)
  rw[hl2]at this
  simp[loadVar,Zbz ha,Y6 hs,this]
 ·subst hg
  refine⟨y,?_,hr⟩
  have:=hl o y hy
  unfold Qb at this
  simp[loadVar,Zbz ha,this]
theorem Zl0(hr:Rel W0 B0 st ρ W){x:AV}(h:loadP st agg n x=some v){u:Value}(hx:R (cx st ρ W st.A.length) x u){t:TypeId}(ha:Yt P t=some agg)(hs:sz P t=some n):
 ∃b z,u=.pointer (some b)/\(loadVar t b).run P W=.ok z W/\R (cx st ρ W st.A.length) v z:=by
 unfold loadP at h
 split at h
 ·rename_i lv ix ver i o
  cases hx with
  | ptr hp =>
   obtain⟨h1,h2,h3,h4,h5⟩:=hp;unfold ZGp at h
   split at h
   ·rename_i w ver' es hg
    split at h
    ·rename_i hv
     subst hv;simp only[Option.bind_eq_some_iff]at h;obtain⟨el,he,hpt⟩:=h;obtain⟨x,g1,g2,g3⟩:=(hr.arr lv ix w ver es hg).el i el he
     have:=h5 w es hg
     subst this
     have hle:(cx st ρ W lv).le (cx st ρ W st.A.length) :=
      ⟨fun _ _ _ h=>h,fun _ _ _ _ _ _ h=>⟨by have:=h.1;omega,h.2⟩,fun _ _ _ _ _ _ h=>⟨by have:=h.1;omega,h.2⟩,fun _ _ _ h=>⟨by have:=h.1;omega,h.2⟩,fun _ _ _ h=>⟨by have:=h.1;omega,h.2⟩⟩
     obtain⟨z,hz,hrz⟩:=Zcc (P:=P) (W:=W) (XN st ρ W st.A.length) (g1.mono hle) ha hs hpt g3;exact⟨_,z,rfl,hz,hrz⟩
    ·simp at h
   ·simp at h
 ·cases hx with
  | lptr hv hl =>
   have hl':Lies (Qb W) _ _ _:=hl.mono (fun _ _ _ h=>h.1)
   obtain⟨z,hz,hrz⟩:=Zcc (P:=P) (W:=W) (XN st ρ W st.A.length) (hv.mono (Cx.pure_le _)) ha hs h hl';exact⟨_,z,rfl,hz,hrz⟩
 ·simp at h
theorem Zcd{m m':Nat}(h:m<=m'):(cx st ρ W m).le (cx st ρ W m') :=
 ⟨fun _ _ _ h=>h,fun _ _ _ _ _ _ q=>⟨by have:=q.1;omega,q.2⟩,fun _ _ _ _ _ _ q=>⟨by have:=q.1;omega,q.2⟩,fun _ _ _ q=>⟨by have:=q.1;omega,q.2⟩,fun _ _ _ q=>⟨by have:=q.1;omega,q.2⟩⟩
theorem Zja{t:TypeId}{x:Value}(hs:sz P t=some n)(hn:x.cells.size=n)(h1:∀y∈x.cells.toList,y.oneCell'=true)
 (hc:∀j,j<n->(W.cell? ⟨b,o+j,none⟩).isSome=true) (hf:∀j,j<n->W.frozen? ⟨b,o+j,none⟩=false) :
 (storeVar t ⟨b,o,none⟩ x).run P W=.ok () (W.setCells b o x.cells.toList):=by
 have hl:x.cells.toList.length=n:=by rw[Array.length_toList];exact hn
 have:=run_storeCells_cells (P:=P) b o x.cells.toList 0 W (by simpa [hl] using hc) (by simpa [hl] using hf) h1
 simp only[Nat.add_zero]at this
 simp[storeVar,Y6 hs,hn,this]
theorem Zqz(hr:Rel W0 B0 st ρ W){x p:AV}(h:ZA7 st n x p=some st'){u q:Value}(hx:R (cx st ρ W st.A.length) x u)(hp:R (cx st ρ W st.A.length) p q){t:TypeId}
 (hs:sz P t=some n):∃b W',q=.pointer (some b)/\(storeVar t b u).run P W=.ok () W'/\Goes W0 B0 st ρ W st' ρ W':=by
 unfold ZA7 at h
 split at h
 ·rename_i lv ix ver i o
  simp only[Option.bind_eq_some_iff]at h;obtain⟨⟨x',st1⟩,hseal,hk⟩:=h
  cases hp with
  | ptr hp =>
   obtain⟨h1,h2,h3,h4,h5⟩:=hp
   obtain⟨g1,r1⟩:=ZBW QK (lv+1) st x u x' st1 hr (by omega) hx hseal
   have hptr:=(g1.ev.le st.A.length (Nat.le_refl _)).ptr lv ix ver i o q ⟨h1,h2,h3,h4,h5⟩;obtain⟨_,k2,_,k4,k5⟩:=hptr;unfold ZGM Xp at hk
   split at hk
   ·rename_i w ver' es hg
    split at hk
    ·rename_i hv
     subst hv;simp only[Option.bind_eq_some_iff]at hk;obtain⟨el,he,e',hset,hput⟩:=hk;have hq:=k5 w es hg;subst hq;have aok:=g1.rel.arr lv ix w ver es hg;obtain⟨y,y1,y2,y3⟩:=aok.el i el he;have hi:=Zm he
     have hlc:(i+1)*w<=(ρ lv ix).c*w:=Nat.mul_le_mul_right w (by have:=aok.len;omega)
     rw[Nat.add_mul,Nat.one_mul]at hlc;have r1':R (cx st1 ρ W lv) x' u:=r1;unfold Q7 at hset
     split at hset
     ·rename_i hwide
      obtain⟨wn,w1⟩:=r1'.wide (XN _ _ _ _) hwide
      have hn:u.cells.toList.length=n:=by rw[Array.length_toList];exact wn
      have hon:o+n<=w:=by
       split at hset
       ·rename_i hc;omega
       ·split at hset
        ·simp at hset
        ·split at hset
         ·rename_i hc;exact hc.2
         ·simp at hset
      refine⟨_,_,rfl,Zja (P:=P) (W:=W) (b:=(ρ lv ix).b) (o:=(ρ lv ix).o+i*w+o) hs wn w1 ?_ ?_,?_⟩
      ·intro j hj
       have:=(aok.mem (i*w+o+j) (by omega)).2.1
       rwa [show (ρ lv ix).o+(i*w+o+j)=(ρ lv ix).o+i*w+o+j by omega]at this
      ·intro j hj
       have:=(aok.mem (i*w+o+j) (by omega)).2.2
       rwa [show (ρ lv ix).o+(i*w+o+j)=(ρ lv ix).o+i*w+o+j by omega]at this
      ·rw[show (ρ lv ix).o+i*w+o=(ρ lv ix).o+(i*w+o) by omega]
       refine g1.trans (Zqt g1.rel hg hput (by simp) (by omega) ?_)
       intro k ek hk;rw[List.getElem?_set]at hk
       by_cases hik:i=k
       ·subst hik
        rw[if_pos rfl,if_pos hi]at hk;simp only[Option.some.injEq]at hk;subst hk;refine .inr ?_
        split at hset
        ·rename_i hc
         obtain⟨rfl,rfl⟩:=hc;simp only[Option.some.injEq]at hset;subst hset
         refine⟨u,r1',wn,fun j v hv=>.inl ⟨by omega,?_⟩⟩
         rw[show i*n+j-(i*n+0)=j by omega]
         simpa using hv
        ·split at hset
         ·simp at hset
         ·rename_i hany
          split at hset
          ·rename_i hc
           simp only[Option.some.injEq]at hset;subst hset
           have cy:=y1.cells (XN _ _ _ _) (by simpa using hany)
           have cu:=r1'.cells (XN _ _ _ _) (ZcX hwide)
           have hcl:x'.cells.length=n:=by rw[cu.1];exact hn
           refine⟨.agg (y.cells.toList.take o++u.cells.toList++y.cells.toList.drop (o+n)).toArray,?_,?_,?_⟩
           ·unfold ZcF
            rw[hcl];exact .agg' (((cy.take o).append cu).append (cy.drop (o+n)))
           ·have hyl:y.cells.toList.length=w:=by rw[Array.length_toList];exact y2
            show ((y.cells.toList.take o++u.cells.toList++y.cells.toList.drop (o+n)).toArray).size=w
            rw[List.size_toArray,List.length_append,List.length_append,List.length_take,List.length_drop,hn,hyl];omega
           ·intro j v hv
            have hyl:y.cells.toList.length=w:=by rw[Array.length_toList];exact y2
            have hv:(y.cells.toList.take o++u.cells.toList++y.cells.toList.drop (o+n))[j]?=some v:=by
             have h0:(Value.agg (y.cells.toList.take o++u.cells.toList++y.cells.toList.drop (o+n)).toArray).cells=(y.cells.toList.take o++u.cells.toList++y.cells.toList.drop (o+n)).toArray:=rfl;rw[h0,List.getElem?_toArray]at hv;exact hv
            have hjw:=Zm hv;rw[List.length_append,List.length_append,List.length_take,List.length_drop,hn,hyl]at hjw
            have htk:(y.cells.toList.take o).length=o:=by rw[List.length_take,hyl];omega
            by_cases c1:j<o
            ·rw[List.append_assoc,jL (by rw[htk];exact c1),List.getElem?_take,if_pos c1]at hv
             refine .inr ⟨.inl (by omega),?_⟩
             have:=y3 j v (by simpa using hv)
             rwa [show (ρ lv ix).o+i*w+j=(ρ lv ix).o+(i*w+j) by omega]at this
            ·by_cases c2:j<o+n
             ·rw[List.append_assoc,List.getElem?_append_right (by rw[htk];omega),jL (by rw[htk,hn];omega)]at hv
              refine .inl ⟨by omega,?_⟩
              rw[show i*w+j-(i*w+o)=j-(y.cells.toList.take o).length by rw[htk];omega]
              exact hv
             ·rw[List.getElem?_append_right (by rw[List.length_append,htk,hn];omega),List.getElem?_drop]at hv
              refine .inr ⟨.inr (by omega),?_⟩
              have hj2:o+n+(j-(y.cells.toList.take o++u.cells.toList).length)=j:=by rw[List.length_append,htk,hn];omega
              rw[hj2]at hv
              have:=y3 j v (by simpa using hv)
              rwa [show (ρ lv ix).o+i*w+j=(ρ lv ix).o+(i*w+j) by omega]at this
          ·simp at hset
       ·rw[if_neg hik]at hk
        refine .inl ⟨hk,?_⟩
        rcases Nat.lt_or_gt_of_ne hik with hlt|hgt
        ·right
         have:(i+1)*w<=k*w:=Nat.mul_le_mul_right w hlt
         rw[Nat.add_mul,Nat.one_mul]at this;omega
        ·left
         have:(k+1)*w<=i*w:=Nat.mul_le_mul_right w hgt
         rw[Nat.add_mul,Nat.one_mul]at this;omega
     ·simp at hset
    ·simp at hk
   ·simp at hk
 ·simp at h
end
section
variable {P:Program}{W0:World}{B0:Bse}{st st':St}{ρ:Rho}{W:World}{e:Env}{a:Act}
theorem Zce(h:Rel W0 B0 st ρ W)(ob:Obj):Goes W0 B0 st ρ W st ρ (W.alloc ob):=by
 have hle:∀m,(cx st ρ W m).le (cx st ρ (W.alloc ob) m):=fun m=>⟨fun b o v q=>⟨ZA8 q.1,q.2⟩,fun _ _ _ _ _ _ q=>q,fun _ _ _ _ _ _ q=>q,fun _ _ _ q=>q,fun _ _ _ q=>q⟩
 refine⟨⟨h.below.alloc h.b0 _,by have:=h.b0;simp;omega,h.yl,?_,h.sep,?_,h.msep⟩,⟨rfl,fun m _=>hle m,fun _ r h=>⟨r,h,rfl,fun _=>rfl⟩,rfl,fun _=>rfl,rfl⟩⟩
 ·intro lv ix w ver es hg
  obtain⟨a1,a2,a3⟩:=h.arr lv ix w ver es hg
  refine⟨a1,fun i e he=>?_,fun j hj=>?_⟩
  ·obtain⟨x,h1,h2,h3⟩:=a2 i e he
   exact⟨x,h1.mono (hle lv),h2,h3.mono fun _ _ _=>ZA8⟩
  ·obtain⟨m1,m2,m3⟩:=a3 j hj
   obtain⟨u,hu⟩:=Option.isSome_iff_exists.1 m2;have hc:Qb (W.alloc ob) _ _ u:=ZA8 hu;unfold Qb at hc
   exact⟨m1,by rw[hc];rfl,by rw[ZCK m2];exact m3⟩
 ·intro lv ix es hg
  obtain⟨m1,en,clock,m2,m3,m4⟩:=h.map lv ix es hg
  refine⟨m1,en,clock,ZAE m2,m3,fun i k v hk=>?_⟩
  obtain⟨n1,x,n2,n3,n4⟩:=m4 i k v hk;exact⟨n1,x,n2,n3.mono (hle lv),n4.mono (hle lv)⟩
theorem Rel.new_im(h:Rel W0 B0 st ρ W){cs:Array Value}{t:TypeId}{v:Value}(hv:cs[o]?=some v):(cx st ρ (W.alloc (.cells cs t)) 0).im W.heap.size o v:=by
 refine⟨by unfold Qb;rw[World.cell?_alloc_new];exact hv,?_⟩
 rintro⟨lv,ix,w,ver,es,hg,hr⟩
 have:=h.mem_cell hg hr
 rw[ZjV (Nat.le_refl _)]at this
 simp at this
theorem Zcf:∀(vs:List Value) (k off:Nat) (cs:Array Value) (i:Nat),off+k+vs.length<=cs.size ->
 ((vs.zipIdx k).foldl (fun cs (p:Value × Nat)=>cs.setIfInBounds (off+p.2) p.1) cs).size=cs.size /\
 ((vs.zipIdx k).foldl (fun cs (p:Value × Nat)=>cs.setIfInBounds (off+p.2) p.1) cs)[i]?=if off+k<=i/\i<off+k+vs.length then vs[i-(off+k)]? else cs[i]?
 | [],k,off,cs,i,_=>by simp;omega
 | v::vs,k,off,cs,i,h=>by
  simp only[List.length_cons]at h
  obtain⟨h1,h2⟩:=Zcf vs (k+1) off (cs.setIfInBounds (off+k) v) i (by simp;omega)
  simp only[List.zipIdx_cons,List.foldl_cons]
  refine⟨by rw[h1];simp,?_⟩
  rw[h2]
  by_cases c1:off+k=i
  ·subst c1
   rw[if_neg (by omega),if_pos (by simp)]
   rw[Array.getElem?_setIfInBounds]
   rw[if_pos rfl,if_pos (by omega)]
   simp
  ·by_cases c2:off+(k+1)<=i/\i<off+(k+1)+vs.length
   ·rw[if_pos c2,if_pos (by simp;omega)]
    rw[show i-(off+k)=(i-(off+(k+1)))+1 by omega]
    simp
   ·rw[if_neg c2,if_neg (by simp;omega),Array.getElem?_setIfInBounds,if_neg c1]
theorem Zcg(x:Value)(off:Nat)(cs:Array Value)(h:off+x.cells.size<=cs.size)(i:Nat):
 (x.cells.zipIdx.foldl (fun cs (c,j)=>cs.setIfInBounds (off+j) c) cs).size=cs.size /\
 (x.cells.zipIdx.foldl (fun cs (c,j)=>cs.setIfInBounds (off+j) c) cs)[i]?=if off<=i/\i<off+x.cells.size then x.cells[i-off]? else cs[i]?:=by
 have:=Zcf x.cells.toList 0 off cs i (by simpa using h)
 rw[<- Array.foldl_toList,Array.toList_zipIdx]
 simpa using this
theorem Zl1{C:Cx}(ok:C.Ok)(place:Nat->Option (Nat × Nat)):∀ {l:List (Nat × Nat × AV)} {cv cv':LV} {ps:List (Nat × Value)} {cs:Array Value},
 fillV cv l=some cv'->RL C cv cs.toList->l.length=ps.length->(∀(i:Nat) (p:Nat × Nat × AV) (q:Nat × Value),l[i]?=some p->ps[i]?=some q->place q.1=some (p.1,p.2.1)/\R C p.2.2 q.2) ->
 ∃cs',Instr.fill place cs ps=some cs'/\RL C cv' cs'.toList
 | [],cv,cv',ps,cs,h,hr,hl,_=>by
  simp only[fillV,Option.some.injEq]at h;subst h
  cases ps with
  | nil=>exact⟨cs,rfl,hr⟩
  | cons p ps=>simp at hl
 | (off,size,v)::l,cv,cv',ps,cs,h,hr,hl,hp=>by
  cases ps with
  | nil=>simp at hl
  | cons q ps =>
   obtain⟨i,x⟩:=q;obtain⟨h1,h2⟩:=hp 0 _ _ rfl rfl;simp only[fillV]at h
   split at h
   ·rename_i hc
    obtain⟨hw,hle⟩:=hc;have hx:x.cells.size=size:=(h2.wide ok hw).1;have hcl:=hr.1;have hcl2:cs.toList.length=cs.size:=Array.length_toList;have hcells:=h2.cells ok (ZcX hw)
    simp only at h1
    have hb:off+x.cells.size<=cs.size:=by omega
    have hnew:RL C (ZcF cv off v.cells) (x.cells.zipIdx.foldl (fun cs (c,j)=>cs.setIfInBounds (off+j) c) cs).toList:=by
     have hvl:v.cells.length=x.cells.size:=by rw[hcells.1,Array.length_toList]
     have heq:(x.cells.zipIdx.foldl (fun cs (c,j)=>cs.setIfInBounds (off+j) c) cs).toList=cs.toList.take off++x.cells.toList++cs.toList.drop (off+x.cells.toList.length):=by
      apply List.ext_getElem?
      intro k;rw[Array.getElem?_toList,(Zcg x off cs hb k).2]
      have htk:(cs.toList.take off).length=off:=by rw[List.length_take,Array.length_toList];omega
      by_cases c1:k<off
      ·rw[if_neg (by omega),List.append_assoc,jL (by omega),List.getElem?_take,if_pos c1];simp
      ·by_cases c2:k<off+x.cells.size
       ·rw[if_pos (by omega),List.append_assoc,List.getElem?_append_right (by omega),htk,jL (by rw[Array.length_toList];omega)];simp
       ·rw[if_neg (by omega),List.getElem?_append_right (by rw[List.length_append,htk,Array.length_toList];omega),List.getElem?_drop,List.length_append,htk,Array.length_toList]
        rw[show off+x.cells.size+(k-(off+x.cells.size))=k by omega];simp
     rw[heq];unfold ZcF;rw[hcells.1];exact ((hr.take off).append hcells).append (hr.drop _)
    obtain⟨cs',hf,hr'⟩:=Zl1 ok place (l:=l) (ps:=ps) h hnew (by simpa using hl) (fun i p q a b=>hp (i+1) p q (by simpa using a) (by simpa using b))
    refine⟨cs',?_,hr'⟩;simp only[Instr.fill,h1]
    rw[if_neg (by simp;omega)]
    exact hf
   ·simp at h
def Zl2(cs:Array Value)(w:Nat)(xs:List Value):Prop :=
 (∀x∈xs,x.cells.size=w)/\∀(i:Nat) (x:Value),xs[i]?=some x->∀(j:Nat) (v:Value),x.cells[j]?=some v->cs[i*w+j]?=some v
theorem Zl3{C:Cx}(ok:C.Ok){w:Nat}:∀ {l:List (Nat × AV)} {es es':LV} {ps:List (Nat × Value)} {cs:Array Value} {xs:List Value},
 fillE w es l=some es'->RL C es xs->Zl2 cs w xs->cs.size=es.length*w->l.length=ps.length->(∀(i:Nat) (p:Nat × AV) (q:Nat × Value),l[i]?=some p->ps[i]?=some q->q.1=p.1/\R C p.2 q.2) ->
 ∃cs' xs',Instr.fill (fun i=>some (i*w,w)) cs ps=some cs'/\RL C es' xs'/\Zl2 cs' w xs'/\cs'.size=cs.size/\es'.length=es.length
 | [],es,es',ps,cs,xs,h,hr,hla,hs,hl,_=>by
  simp only[fillE,Option.some.injEq]at h;subst h
  cases ps with
  | nil=>exact⟨cs,xs,rfl,hr,hla,rfl,rfl⟩
  | cons p ps=>simp at hl
 | (k,v)::l,es,es',ps,cs,xs,h,hr,hla,hs,hl,hp=>by
  cases ps with
  | nil=>simp at hl
  | cons q ps =>
   obtain⟨i,x⟩:=q;obtain⟨h1,h2⟩:=hp 0 _ _ rfl rfl
   simp only at h1
   subst h1;simp only[fillE]at h
   split at h
   ·rename_i hc
    obtain⟨hw,hlt⟩:=hc;have hx:x.cells.size=w:=(h2.wide ok hw).1;have hmul:(i+1)*w<=es.length*w:=Nat.mul_le_mul_right w hlt;rw[Nat.add_mul,Nat.one_mul]at hmul
    have hb:i*w+x.cells.size<=cs.size:=by omega
    have hla':Zl2 (x.cells.zipIdx.foldl (fun cs (c,j)=>cs.setIfInBounds (i*w+j) c) cs) w (xs.set i x):=by
     refine⟨fun y hy=>?_,fun m y hy j u hu=>?_⟩
     ·rcases List.mem_or_eq_of_mem_set hy with hy|hy
      ·exact hla.1 y hy
      ·subst hy;exact hx
     ·rw[(Zcg x (i*w) cs hb (m*w+j)).2]
      have hj:=YF hu;rw[List.getElem?_set]at hy
      by_cases c1:i=m
      ·subst c1
       rw[if_pos rfl]at hy
       split at hy
       ·simp only[Option.some.injEq]at hy;subst hy
        rw[if_pos (by omega),show i*w+j-i*w=j by omega];exact hu
       ·simp at hy
      ·rw[if_neg c1]at hy
       have hyw:=hla.1 y (jM hy)
       have hne:¬ (i*w<=m*w+j/\m*w+j<i*w+x.cells.size):=by
        rcases Nat.lt_or_gt_of_ne c1 with hlt|hgt
        ·have:(i+1)*w<=m*w:=Nat.mul_le_mul_right w hlt
         rw[Nat.add_mul,Nat.one_mul]at this;omega
        ·have:(m+1)*w<=i*w:=Nat.mul_le_mul_right w hgt
         rw[Nat.add_mul,Nat.one_mul]at this;omega
       rw[if_neg hne];exact hla.2 m y hy j u hu
    have hsz:(x.cells.zipIdx.foldl (fun cs (c,j)=>cs.setIfInBounds (i*w+j) c) cs).size=cs.size:=(Zcg x (i*w) cs hb 0).1
    obtain⟨cs',xs',hf,q1,q2,q3,q4⟩:=Zl3 ok (l:=l) (ps:=ps) h (hr.set h2 i) hla' (by rw[hsz,hs];simp) (by simpa using hl) (fun i p q a b=>hp (i+1) p q (by simpa using a) (by simpa using b))
    refine⟨cs',xs',?_,q1,q2,by rw[q3,hsz],by rw[q4];simp⟩
    simp only[Instr.fill]
    rw[if_neg (by simp;omega)]
    exact hf
   ·simp at h
theorem ZiM{zv:Value}(hw:zv.cells.size=w)(hw0:w≠0)(hn:n<=c):Zl2 ((Array.range (c*w)).map (fun i=>zv.cells[i % zv.cells.size]!)) w (List.replicate n zv):=by
 refine⟨fun x hx=>by rw[(List.mem_replicate.1 hx).2];exact hw,fun i x hx j v hv=>?_⟩
 have hi:=Zm hx;simp only[List.length_replicate]at hi;rw[List.getElem?_replicate,if_pos hi]at hx;simp only[Option.some.injEq]at hx;subst hx;have hj:=YF hv
 have hmul:(i+1)*w<=c*w:=Nat.mul_le_mul_right w (by omega)
 rw[Nat.add_mul,Nat.one_mul]at hmul;rw[Array.getElem?_map,Array.getElem?_range]
 rw[if_pos (by omega)]
 simp only[Option.map_some,Option.some.injEq]
 have:(i*w+j) % zv.cells.size=j:=by
  rw[hw,Nat.mul_comm,Nat.mul_add_mod,Nat.mod_eq_of_lt (by omega)]
 rw[this];rw[Array.getElem?_eq_getElem hj]at hv;simp only[Option.some.injEq]at hv;rw[<- hv];exact getElem!_pos zv.cells j hj
theorem ZU2{C:Cx}{x:Value}(h:R C v x)(n:Nat):RL C (List.replicate n v) (List.replicate n x):=by
 induction n with
 | zero=>exact .nil _
 | succ n ih=>exact .cons h ih
end
end Go.QAbs
