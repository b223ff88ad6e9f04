/- Which operations may go in either order. Definitions alone. No condition. -/
import Derived.Test.YtmkjnglbfgajbaaQA
namespace Go.QAbs
set_option linter.unusedVariables false
set_option linter.unusedSimpArgs false

def Opd.slots : Opd → List Nat
  | .s t => [t]
  | .v _ => []

def oslots : Option Opd → List Nat
  | none => []
  | some x => x.slots

def lslots : List Opd → List Nat
  | [] => []
  | x :: xs => x.slots ++ lslots xs

def pslots : List (Nat × Nat × Opd) → List Nat
  | [] => []
  | p :: ps => p.2.2.slots ++ pslots ps

def eslots : List (Nat × Opd) → List Nat
  | [] => []
  | p :: ps => p.2.slots ++ eslots ps

def PO.slots : PO → List Nat
  | .mv x => x.slots
  | .pick c a b => c.slots ++ (a.slots ++ b.slots)
  | .onil _ => []
  | .box x => x.slots
  | .boxnil _ => []
  | .build _ ps => pslots ps
  | .bslice _ _ _ ps => eslots ps
  | .ld _ _ a => a.slots
  | .st _ a x => a.slots ++ x.slots
  | .nilck x => x.slots
  | .bin _ x y => x.slots ++ y.slots
  | .eqs _ _ _ x y => x.slots ++ y.slots
  | .un _ x => x.slots
  | .cint _ x => x.slots
  | .cstr x => x.slots
  | .b2s x => x.slots
  | .mkf _ f c => lslots f ++ lslots c
  | .mkmap => []
  | .mkslice _ _ _ l c => l.slots ++ c.slots
  | .slcS x lo hi => x.slots ++ (oslots lo ++ oslots hi)
  | .slc _ x lo hi => x.slots ++ (oslots lo ++ oslots hi)
  | .fadr _ x => x.slots
  | .fld _ _ _ x => x.slots
  | .ixS _ x i => x.slots ++ i.slots
  | .ixA _ _ x i => x.slots ++ i.slots
  | .ixStr x i => x.slots ++ i.slots
  | .ixArr _ _ _ x i => x.slots ++ i.slots
  | .look _ _ _ x i => x.slots ++ i.slots
  | .mupd _ x k v => x.slots ++ (k.slots ++ v.slots)
  | .mdel _ x k => x.slots ++ k.slots
  | .len _ x => x.slots
  | .app _ _ s x => s.slots ++ x.slots
  | .mnx _ x y => x.slots ++ y.slots
  | .ext x _ => x.slots
  | .call _ f l => f.slots ++ lslots l
  | .w _ _ => []

def gslots : Option (Nat × Bool) → List Nat
  | none => []
  | some (t, _) => [t]

def WK.slots : WK → List Nat
  | .hide as => lslots as
  | .plain b => b.slots
  | _ => []

/-- The slots that an operation reads, with what is said beside it. -/
def PO.all : PO → List Nat
  | .w k o => k.slots ++ o.slots
  | o => o.slots

def PI.slots (p : PI) : List Nat := gslots p.guard ++ p.op.all

def PO.pure : PO → Bool
  | .mv _ | .pick .. | .build .. | .nilck _ | .bin .. | .eqs .. | .un .. | .cint .. | .cstr _ | .mkf .. | .slcS .. | .fadr .. | .fld .. | .ixA .. | .ixStr .. | .ixArr .. | .mnx .. | .ext .. => true
  | .len k _ => decide (k ≠ 2)
  | _ => false

def PO.adds : PO → Bool
  | .onil _ | .box _ | .boxnil _ | .mkmap | .mkslice .. => true
  | .bslice own .. => own
  | _ => false

def callKind : PO → Nat
  | .call .pure _ _ => 4
  | .call .own _ _ => 5
  | .call .pin _ _ => 4
  | .w .blind _ => 0
  | .w .imm _ => 0
  | .w (.hide _) _ => 1
  | .w .app0 _ => 3
  | .w (.here _) _ => 3
  | _ => 6

def Opd.same : Opd → Opd → Bool
  | .s t, .s u => t == u
  | _, _ => false

/-- Pairs that may go in either order for a reason of their own. -/
def commW : PO → PO → Bool
  | .w (.here i) _, .w (.here j) _ => i != j
  | .w (.hide as) _, .w (.plain b) _ => as.any (Opd.same b)
  | .w (.plain b) _, .w (.hide as) _ => as.any (Opd.same b)
  | .call .inner _ _, .w (.here _) _ => true
  | .call .pin _ _, .w (.here _) _ => true
  | _, _ => false

/-- 0: sees no store; 1: reads; 2: reads, the older regions out of sight; 3: adds a block; 4: a call that writes nothing; 5: a call that writes nothing of the own region; 6: anything. -/
def PI.kind (p : PI) : Nat :=
  if p.own = true then 2 else if p.op.pure = true then 0 else if p.op.reads = true then 1 else if p.op.adds = true then 3 else callKind p.op

def stillK : Nat → Bool
  | 0 | 1 | 2 | 4 => true
  | _ => false

/-- The first may go behind the second. -/
def commK (a b : Nat) : Bool :=
  a == 0 || b == 0 || (stillK a && stillK b) || ((a == 1 || a == 2) && b == 3) || (a == 2 && b == 5) || (a == 5 && b == 2)

def dstApart : Option Nat → Option Nat → Bool
  | some a, some b => a != b
  | _, _ => true

def notIn : Option Nat → List Nat → Bool
  | some d, l => !l.contains d
  | none, _ => true

def commB (x p : PI) : Bool := (commK x.kind p.kind || (!x.own && !p.own && commW x.op p.op)) && (dstApart x.dst p.dst && (notIn x.dst p.slots && notIn p.dst x.slots))

/-- What an operation is bound to come after. -/
def edgesOf (o : Oper) : List Nat := (o.after.toList.filter (Region.binds .any)).map (·.on)

def maskOf (ms : List Nat) : List Nat → Nat
  | [] => 0
  | e :: es => 2 ^ e ||| (ms.getD e 0 ||| maskOf ms es)

/-- Each earlier operation comes before, or may come behind. -/
def apartAll (m : Nat) (p : PI) : Nat → List PI → Bool
  | _, [] => true
  | i, x :: xs => (m.testBit i || commB x p) && apartAll m p (i + 1) xs

def drawGo : Nat → List Nat → List PI → List Oper → List PI → Bool
  | k, ms, prev, o :: os, p :: ps =>
    (edgesOf o).all (fun e => decide (e < k)) && (apartAll (maskOf ms (edgesOf o)) p 0 prev && drawGo (k + 1) (ms ++ [maskOf ms (edgesOf o)]) (prev ++ [p]) os ps)
  | _, _, _, _, _ => true

/-- Every order that the edges allow ends alike. -/
def drawOk (ops : List Oper) (is : List PI) : Bool := drawGo 0 [] [] ops is

end Go.QAbs
