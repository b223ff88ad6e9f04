/- A part of the proof: RC, RD, RE, RF, RG, RH, RI, RJ, RK, M52, RL, S4, S5, S6, YX, W7, RN, RO, W8, RP, SA, PVb, PSi, RS, RQ, RT, RU, RV, M18. No condition. -/
import Derived.Test.YtcdebbidfgmieaaGreatRpT7
set_option linter.unusedVariables false
set_option linter.unusedSimpArgs false
set_option maxHeartbeats 8000000
set_option maxRecDepth 100000
namespace Go.Q15
open Go Go.QAbs
theorem ZAu{L T:List Blk}{i:Nat}{b:Blk}(h:L[i]?=some b):(L++T)[i]?=some b:=by
 rw[jL (List.getElem?_eq_some_iff.1 h).1];exact h
section
variable {O:Orc}{k:List Fr}{Q:YD}{e:Env}{A:List (Bool × List Blk)}{L0 T:List Blk}{keep:List Nat}{is:List PI}{d:Nat}
theorem ZaG{a b:Opd}{agg:Bool}{n ix ver i o vb ib ob w:Nat}{es:LV}{x v:AV}(ha:Ze e a=some (.ptr A.length (L0.length+ix) ver i o))(hb:Ze e b=some (.ptr A.length (L0.length+ix) vb ib ob))
 (hg:T[ix]?=some (Blk.arr w ver es)) (hx:es[i]?=some x) (hv:JL x agg o n=some v) (h:Is O is keep k Q ((d,v)::e) ⟨A,false,L0++T⟩):Is O (⟨some d,none,false,.w (.only b) (.ld agg n a)⟩::is) keep k Q e ⟨A,false,L0++T⟩ :=
 Zla ha hb (by rw[QS];exact hg) hx hv h
theorem ZjK{w m:Nat}(hm:Zal T=some m)(h:Is O is keep k Q ((d,.ptr A.length (L0.length+(m+1)) 0 0 0)::e) ⟨A,false,L0++(T++[Blk.arr w 0 [],Blk.arr 1 0 [.ref A.length (L0.length+m) 0 0 0]])⟩):Is O (⟨some d,none,false,.boxnil w⟩::is) keep k Q e ⟨A,false,L0++T⟩:=by
 refine ZMQ ?_;rw[lL,ZA9 hm,List.append_assoc];exact h
theorem Zhl{w m:Nat}{z v:AV}{o:Opd}(ho:Ze e o=some v)(hw:v.wide=some w)(hm:Zal T=some m)(h:Is O is keep k Q ((d,.ref A.length (L0.length+m) 0 0 1)::e) ⟨A,false,L0++(T++[Blk.arr w 0 [v]])⟩):Is O (⟨some d,none,false,.bslice true w [z] [(0,o)]⟩::is) keep k Q e ⟨A,false,L0++T⟩:=by
 refine ZkK ho hw ?_;rw[lL,ZA9 hm,List.append_assoc];exact h
end
theorem ZjL{A:List (Bool × List Blk)}{L0 T:List Blk}{ix ver w n:Nat}{ys:LV}(hg:T[ix]?=some (Blk.arr w ver ys))(hn:n=ys.length):elems ⟨A,false,L0++T⟩ (.ref A.length (L0.length+ix) ver 0 n)=some ys:=by
 subst hn;simp only[elems,St.get_cur,QS,hg,vis,ZDb,true_and,Nat.zero_add,Nat.le_refl,if_true,List.drop_zero,List.take_length]
structure Frm(L:List Blk)(X:Nat->Prop)(L':List Blk)(X':Nat->Prop):Prop where
 len:L.length<=L'.length
 old:∀i,i<L.length->¬ X i->L'[i]?=L[i]?
 own:∀i,X' i->X i\/L.length<=i
theorem Frm.trans{L0 L1 L2:List Blk}{X0 X1 X2:Nat->Prop}(h:Frm L0 X0 L1 X1)(g:Frm L1 X1 L2 X2):Frm L0 X0 L2 X2:=by
 have h1:=h.len;have h2:=g.len
 refine⟨by omega,fun i hi hn=>?_,fun i hi=>?_⟩
 ·rw[g.old i (by omega) (fun q=>by rcases h.own i q with w|w;exact hn w;omega),h.old i hi hn]
 ·rcases g.own i hi with w|w
  ·exact h.own i w
  ·exact .inr (by omega)
theorem Frm.app{L:List Blk}{X:Nat->Prop}(T:List Blk):Frm L X (L++T) X :=
 ⟨by simp,fun i hi _=>jL hi,fun i h=>.inl h⟩
def Fx(L:List Blk)(X:Nat->Prop)(F:List (Nat × Blk)):Prop:=∀p∈F,L[p.1]?=some p.2/\¬ X p.1
theorem Fx.frm{L L':List Blk}{X X':Nat->Prop}{F:List (Nat × Blk)}(h:Fx L X F)(g:Frm L X L' X'):Fx L' X' F:=by
 intro p hp;obtain⟨h1,h2⟩:=h p hp;have hlt:=(List.getElem?_eq_some_iff.1 h1).1
 exact⟨by rw[g.old _ hlt h2];exact h1,fun q=>by rcases g.own _ q with w|w;exact h2 w;omega⟩
theorem Fx.append{L:List Blk}{X:Nat->Prop}{F G:List (Nat × Blk)}(h:Fx L X F)(g:Fx L X G):Fx L X (F++G):=fun p hp=>by
 rcases List.mem_append.1 hp with q|q
 ·exact h p q
 ·exact g p q
def Rx(L:List Blk)(X:Nat->Prop)(R:List (Nat × Ro)):Prop:=Fx L X (R.map fun p=>(p.1,Blk.arr 5 0 [p.2.av]))
theorem Rx.frm{L L':List Blk}{X X':Nat->Prop}{R:List (Nat × Ro)}(h:Rx L X R)(g:Frm L X L' X'):Rx L' X' R:=Fx.frm h g
theorem Rx.append{L:List Blk}{X:Nat->Prop}{R S:List (Nat × Ro)}(h:Rx L X R)(g:Rx L X S):Rx L X (R++S):=by
 unfold Rx;rw[List.map_append];exact Fx.append h g
theorem Rx.get{L:List Blk}{X:Nat->Prop}{R:List (Nat × Ro)}(h:Rx L X R){p:Nat × Ro}(hp:p∈R):L[p.1]?=some (.arr 5 0 [p.2.av])/\¬ X p.1:=h (p.1,.arr 5 0 [p.2.av]) (List.mem_map.2 ⟨p,hp,rfl⟩)
def Ym(ip:Nat)(td:AV)(i:Nat):Prop:=i=ip\/∃lv ver s n,td=.ref lv i ver s n
structure Pen(A:List (Bool × List Blk))(L:List Blk)(ip:Nat)(a:AV)(td:AV)(cls:LV):Prop where
 st:∃rp,L[ip]?=some (.arr 3 0 [.agg [a,td,rp]])
 td:(td=.nils/\cls=[])\/∃tx ver,td=.ref A.length tx ver 0 cls.length/\L[tx]?=some (.arr 1 ver cls)/\tx≠ip/\cls≠[]
theorem Pen.frm{A:List (Bool × List Blk)}{L L':List Blk}{ip:Nat}{a td:AV}{cls:LV}(h:Pen A L ip a td cls)(g:∀i,Ym ip td i->L'[i]?=L[i]?):Pen A L' ip a td cls:=by
 obtain⟨⟨rp,h1⟩,h2⟩:=h
 refine⟨⟨rp,by rw[g ip (.inl rfl)];exact h1⟩,?_⟩
 rcases h2 with q|⟨tx,ver,e1,e2,e3⟩
 ·exact .inl q
 ·exact .inr ⟨tx,ver,e1,by rw[g tx (.inr ⟨_,_,_,_,e1⟩)];exact e2,e3⟩
theorem Pen.lt{A:List (Bool × List Blk)}{L:List Blk}{ip:Nat}{a td:AV}{cls:LV}(h:Pen A L ip a td cls){i:Nat}(hi:Ym ip td i):i<L.length:=by
 obtain⟨⟨rp,h1⟩,h2⟩:=h
 rcases hi with rfl|⟨lv,ver,s,n,e⟩
 ·exact (List.getElem?_eq_some_iff.1 h1).1
 ·rcases h2 with⟨q,_⟩|⟨tx,ver2,e1,e2,e3⟩
  ·rw[q]at e;simp at e
  ·rw[e1]at e
   simp only[AV.ref.injEq]at e;rw[<- e.2.1];exact (List.getElem?_eq_some_iff.1 e2).1
theorem Pen.app{A:List (Bool × List Blk)}{L:List Blk}{ip:Nat}{a td:AV}{cls:LV}(h:Pen A L ip a td cls)(T:List Blk):Pen A (L++T) ip a td cls :=
 h.frm fun i hi=>jL (h.lt hi)
def clV(n b0 b1 b2:Nat):AV:=.func (.func Xs) [] [.ptr n b0 0 0 0,.ptr n b1 0 0 0,.ptr n b2 0 0 0]
inductive Cv (n:Nat):AV->Prop
 | one (x:Nat):Cv n (.func (.func Jy) [] [.ptr n x 0 0 0])
 | two (x y:Nat):Cv n (.func (.func JO) [] [.ptr n x 0 0 0,.ptr n y 0 0 0])
def ZqQ(n ip rx b:Nat)(cv:AV):List Blk:=[.arr 1 0 [.ptr n ip 0 0 0],.arr 1 0 [.ptr n rx 0 0 0],.arr 1 0 [cv],.arr 1 0 [clV n b (b+2) (b+1)]]
theorem Zq7{A:List (Bool × List Blk)}{L:List Blk}{ip rx:Nat}{a td cv:AV}{cls:LV}(h:Pen A L ip a td cls)(hcv:Cv A.length cv)(hl:cls.length<1000000):
 ∃L' td',S Tb ZAl [.ptr A.length ip 0 0 0,.ptr A.length rx 0 0 0,cv] ⟨A,false,L⟩=some (.tup [],⟨A,false,L'⟩)/\Pen A L' ip a td' (cls++[clV A.length L.length (L.length+2) (L.length+1)])/\Frm L (Ym ip td) L' (Ym ip td') /\
  Fx L' (Ym ip td') [(L.length,.arr 1 0 [.ptr A.length ip 0 0 0]),(L.length+1,.arr 1 0 [.ptr A.length rx 0 0 0]),(L.length+2,.arr 1 0 [cv])]:=by
 obtain⟨⟨rp,h1⟩,h2⟩:=h;have hip:=(List.getElem?_eq_some_iff.1 h1).1
 have e0:(⟨A,false,L⟩:St)=⟨A,false,L++[]⟩:=by rw[lN]
 have hg1:∀T,(L++T)[ip]?=some (.arr 3 0 [.agg [a,td,rp]]):=fun T=>ZAu h1
 rcases h2 with⟨rfl,rfl⟩|⟨tx,ver,rfl,h3,h4,_⟩
 ·refine⟨(L++(ZqQ A.length ip rx L.length cv++[Blk.arr 1 0 [clV A.length L.length (L.length+2) (L.length+1)]])).set ip (Blk.arr 3 0 [.agg [a,.ref A.length (L.length+4) 0 0 1,rp]]),.ref A.length (L.length+4) 0 0 1,ZAQ Y ?_,?_⟩
  ·rw[e0]
   have hg1':∀T,(L++T)[ip]?=some (.arr 3 0 [.agg [a,.nils,rp]]):=hg1;unfold ZqQ clV
   cases hcv
   all_goals repeat'(first|refine Yy Y Y Y Y Y ?_|refine ZaG Y Y Y Y Y ?_|refine ZAU Y Y Y Y ?_|refine Zhl Y Y Y ?_|refine ZE ?_|refine ZD ?_|refine ZU Y Y ?_|refine ZB Y ?_|refine ZC ?_|refine Z2 Y Y ?_|refine ZAP Y Y ?_|refine ZV Y (hg1' _) Y Y ?_)
   all_goals refine ZkJ Y Y Y (ZjL Y Y) Y Y ?_
   all_goals refine ZGV Y Y (ZjL Y Y) (by simp) (by decide) Y ?_
   all_goals repeat'(first|refine ZU Y Y ?_|refine Z2 Y Y ?_)
   all_goals refine JB (by rw[List.append_assoc];exact hg1' _) Y Y Y (Jc _ (Nat.lt_succ_self _)) Y ?_
   all_goals refine ZB Y ?_
   all_goals refine ZL ?_
   all_goals refine (YG (.inl Y) Y Y Y Y).trans ?_
   all_goals simp
  ·have hnX : ∀i, L.length <= i -> i ≠ L.length + 4 -> ¬ Ym ip (.ref A.length (L.length + 4) 0 0 1) i := by
    rintro i hi hne (q|⟨_,_,_,_,q⟩)
    ·omega
    ·simp only[AV.ref.injEq]at q;omega
   refine⟨⟨⟨rp,List.getElem?_set_self (by simp;omega)⟩,.inr ⟨L.length+4,0,rfl,?_,by omega,by simp⟩⟩,⟨by simp,fun i hi hn=>?_,fun i hi=>?_⟩,?_⟩
   ·rw[jS (by omega),QS];rfl
   ·have:i≠ip:=fun q=>hn (.inl q)
    rw[jS (fun q=>this q.symm),jL hi]
   ·rcases hi with q|⟨_,_,_,_,q⟩
    ·exact .inl (.inl q)
    ·simp only[AV.ref.injEq]at q;exact .inr (by omega)
   ·intro p hp
    simp only[List.mem_cons,List.not_mem_nil,or_false]at hp
    rcases hp with rfl|rfl|rfl
    ·refine⟨?_,hnX _ (by simp) (by simp)⟩
     simp only
     rw[jS (by omega)]
     exact QS (i:=0)
    ·refine⟨?_,hnX _ (by simp) (by simp)⟩
     simp only
     rw[jS (by omega)]
     exact QS (i:=1)
    ·refine⟨?_,hnX _ (by simp) (by simp)⟩
     simp only
     rw[jS (by omega)]
     exact QS (i:=2)
 ·have htx:=(List.getElem?_eq_some_iff.1 h3).1
  refine⟨((L++ZqQ A.length ip rx L.length cv).set tx (Blk.arr 1 (ver+1) (cls++[clV A.length L.length (L.length+2) (L.length+1)]))).set ip (Blk.arr 3 0 [.agg [a,.ref A.length tx (ver+1) 0 (cls.length+1),rp]]),.ref A.length tx (ver+1) 0 (cls.length+1),ZAQ Y ?_,?_⟩
  ·rw[e0]
   have hgt:∀T,(L++T)[tx]?=some (.arr 1 ver cls):=fun T=>ZAu h3
   have hap:ZWG (.ptr A.length (L.length+0) 0 0 0) (.ref A.length tx ver 0 cls.length)=true:=by
    simp[ZWG,ZAy];omega
   have hgr:∀f x y z,ZWF (.ref A.length tx ver 0 cls.length) (some [.func (.func f) [] [.ptr A.length x 0 0 0,.ptr A.length y 0 0 0,.ptr A.length z 0 0 0]])=true:=by
    intro f x y z;simp[ZWF,ZBX,ZgJ]
   have hsl:∀(st:St) f x y z,mapSt (ZZ QD (A.length+1)) st [.func (.func f) [] [.ptr A.length x 0 0 0,.ptr A.length y 0 0 0,.ptr A.length z 0 0 0]]=some ([.func (.func f) [] [.ptr A.length x 0 0 0,.ptr A.length y 0 0 0,.ptr A.length z 0 0 0]],st):=by
    intro st f x y z;rw[mapSt,ZO3 _ (Nat.lt_succ_self _)];rfl
   unfold ZqQ clV
   cases hcv
   all_goals repeat'(first|refine Yy Y Y Y Y Y ?_|refine ZaG Y Y Y Y Y ?_|refine ZAU Y Y Y Y ?_|refine Zhl Y Y Y ?_|refine ZE ?_|refine ZD ?_|refine ZU Y Y ?_|refine ZB Y ?_|refine ZC ?_|refine Z2 Y Y ?_|refine ZAP Y Y ?_|refine ZV Y (hg1 _) Y Y ?_)
   all_goals refine ZkJ Y Y Y (ZjL Y Y) hap (hgr _ _ _ _) ?_
   all_goals refine Zhk Y Y (by rw[QS];rfl) (hgt _) rfl rfl (hsl _ _ _ _ _) (by simp;omega) (by decide) ?_
   all_goals repeat'(first|refine ZU Y Y ?_|refine Z2 Y Y ?_)
   all_goals refine JB (by rw[jS h4];exact hg1 _) Y Y Y (Jc _ (Nat.lt_succ_self _)) Y ?_
   all_goals refine ZB Y ?_
   all_goals refine ZL ?_
   all_goals refine (YG (.inl Y) Y Y Y Y).trans ?_
   all_goals simp
  ·have hnX : ∀i, L.length <= i -> ¬ Ym ip (.ref A.length tx (ver + 1) 0 (cls.length + 1)) i := by
    rintro i hi (q|⟨_,_,_,_,q⟩)
    ·omega
    ·simp only[AV.ref.injEq]at q;omega
   refine⟨⟨⟨rp,List.getElem?_set_self (by simp;omega)⟩,.inr ⟨tx,ver+1,by simp,?_,h4,by simp⟩⟩,⟨by simp,fun i hi hn=>?_,fun i hi=>?_⟩,?_⟩
   ·rw[jS (fun q=>h4 q.symm),List.getElem?_set_self (by simp;omega)]
   ·have n1:i≠ip:=fun q=>hn (.inl q)
    have n2:i≠tx:=fun q=>hn (.inr ⟨A.length,ver,0,cls.length,by rw[q]⟩)
    rw[jS (fun q=>n1 q.symm),jS (fun q=>n2 q.symm),jL hi]
   ·rcases hi with q|⟨_,_,_,_,q⟩
    ·exact .inl (.inl q)
    ·simp only[AV.ref.injEq]at q
     exact .inl (.inr ⟨A.length,ver,0,cls.length,by rw[q.2.1]⟩)
   ·intro p hp
    simp only[List.mem_cons,List.not_mem_nil,or_false]at hp
    rcases hp with rfl|rfl|rfl
    ·refine⟨?_,hnX _ (by simp)⟩
     simp only
     rw[jS (by omega),jS (by omega)]
     exact QS (i:=0)
    ·refine⟨?_,hnX _ (by simp)⟩
     simp only
     rw[jS (by omega),jS (by omega)]
     exact QS (i:=1)
    ·refine⟨?_,hnX _ (by simp)⟩
     simp only
     rw[jS (by omega),jS (by omega)]
     exact QS (i:=2)
inductive ItC where
 | leaf (s:B8)
 | inn (h:Nat) (ks:List Nat)
structure It where
 rx:Nat
 c:ItC
variable {r':AR}{a cv td v:AV}{ro:Bool}{e:Env}{f:FuncId}{it:It}{A:List (Bool × List Blk)}{args caps cls es:LV}{L':List Blk}{ip ix j la mx n ob ox ver w wb:Nat}{x:Nd}{st:St}{t:Tr}
def ZO4(n:Nat)(rs:List Nat):LV:=rs.map fun r=>.ptr n r 0 0 0
def CvOk(n:Nat)(F:List (Nat × Blk))(cv:AV):ItC->Prop
 | .leaf s=>∃xb,cv=.func (.func Jy) [] [.ptr n xb 0 0 0]/\(xb,Blk.arr 3 0 [.agg [.int .i64 0,.str s,.nils]])∈F
 | .inn h ks=>∃tb kb kx,∃t:Tr,cv=.func (.func JO) [] [.ptr n tb 0 0 0,.ptr n kb 0 0 0]/\t.h=h/\(tb,Blk.arr 7 0 [t.av])∈F/\(kb,Blk.arr 1 0 [.ref n kx ks.length 0 ks.length])∈F/\(kx,Blk.arr 1 ks.length (ZO4 n ks))∈F
theorem CvOk.mono{n:Nat}{F G:List (Nat × Blk)}(hs:∀p∈F,p∈G){cv:AV}:∀ {c:ItC},CvOk n F cv c->CvOk n G cv c
 | .leaf s,⟨xb,h1,h2⟩=>⟨xb,h1,hs _ h2⟩
 | .inn h ks,⟨tb,kb,kx,t,h1,h2,h3,h4,h5⟩=>⟨tb,kb,kx,t,h1,h2,hs _ h3,hs _ h4,hs _ h5⟩
def ClOk(n ip:Nat)(F:List (Nat × Blk))(cl:AV)(it:It):Prop :=
 ∃b0 b1 b2 cv,cl=clV n b0 b1 b2/\(b0,Blk.arr 1 0 [.ptr n ip 0 0 0])∈F/\(b1,Blk.arr 1 0 [cv])∈F/\(b2,Blk.arr 1 0 [.ptr n it.rx 0 0 0])∈F/\CvOk n F cv it.c
theorem ClOk.mono{F G:List (Nat × Blk)}(hs:∀p∈F,p∈G){cl:AV}(h:ClOk n ip F cl it):ClOk n ip G cl it:=by
 obtain⟨b0,b1,b2,cv,h1,h2,h3,h4,h5⟩:=h;exact⟨b0,b1,b2,cv,h1,hs _ h2,hs _ h3,hs _ h4,h5.mono hs⟩
inductive ClsOk (n ip:Nat) (F:List (Nat × Blk)):LV->List It->Prop
 | nil:ClsOk n ip F [] []
 | cons {c i cs is} (h:ClOk n ip F c i) (t:ClsOk n ip F cs is):ClsOk n ip F (c::cs) (i::is)
theorem ClsOk.mono{F G:List (Nat × Blk)}(hs:∀p∈F,p∈G){cs:LV}{is:List It}(h:ClsOk n ip F cs is):ClsOk n ip G cs is:=by
 induction h with
 | nil=>exact .nil
 | cons h t ih=>exact .cons (h.mono hs) ih
theorem ClsOk.append{F:List (Nat × Blk)}{cs ds:LV}{is js:List It}(h:ClsOk n ip F cs is)(g:ClsOk n ip F ds js):ClsOk n ip F (cs++ds) (is++js):=by
 induction h with
 | nil=>exact g
 | cons h t ih=>exact .cons h ih
theorem ClsOk.len{F:List (Nat × Blk)}{cs:LV}{is:List It}(h:ClsOk n ip F cs is):cs.length=is.length:=by
 induction h with
 | nil=>rfl
 | cons h t ih=>simp[ih]
namespace Tr
mutual
def mea:Tr->Mea
 | .mk o h m s k=>if o≠0 then m else if h=0 then Yw s else QI (meaO k)
def meaO:Option (List Tr)->List Mea
 | none=>[]
 | some l=>ZqR l
def ZqR:List Tr->List Mea
 | []=>[]
 | t::l=>t.mea::ZqR l
end
theorem meaL_map:∀l,ZqR l=l.map mea
 | []=>rfl
 | t::l=>by rw[ZqR,meaL_map l];rfl
end Tr
theorem Zf4(h:Nat)(l:List Tr):(Tr.mk 0 (h+1) .zero [] (some l)).mea=QI (l.map Tr.mea):=by
 rw[Tr.mea,Tr.meaO,Tr.meaL_map];simp
theorem ZO5(s:B8)(k:Option (List Tr)):(Tr.mk 0 0 .zero s k).mea=Yw s:=by rw[Tr.mea];simp
theorem ZO6{o h:Nat}{m:Mea}{s:B8}{k:Option (List Tr)}(h0:o≠0):(Tr.mk o h m s k).mea=m:=by rw[Tr.mea];simp[h0]
structure Mea.Chn(m:Mea):Prop where
 l0:0<=m.l
 lr:m.l<=m.r
 rb:m.r<=m.b
theorem ZaH:∀ {l:List Mea},(∀m∈l,m.Chn)->(QI l).Chn
 | [],_=>⟨by decide,by decide,by decide⟩
 | m::l,h=>by
  obtain⟨a1,a2,a3⟩:=h m (by simp)
  obtain⟨b1,b2,b3⟩:=ZaH (l:=l) (fun x hx=>h x (by simp[hx]))
  constructor<;>simp only[QI,Mea.add]<;>omega
theorem Zhm(s:B8):(Yw s).Chn:=by
 have h2:=ZO0 s;have h3:=List.countP_le_length (p:=ZD4) (l:=s)
 constructor<;>simp only[Yw]<;>omega
theorem NdOk.chn{x:Nd}(h:NdOk x):x.mea.Chn:=by
 rcases h with h|⟨n,ks,h⟩
 ·have hm:x.mea=Yw x.text:=by unfold Nd.mea;rw[if_pos h.h]
  rw[hm];exact Zhm _
 ·have e:=h.eq
  subst e;have hms:Nd.mea ⟨n+1,[],some ks⟩=QI (ks.map Kid.m):=rfl;rw[hms]
  refine ZaH (fun m hm=>?_)
  obtain⟨k,hk,rfl⟩:=List.mem_map.1 hm
  have:=h.kid k hk
  exact⟨this.l0,this.lr,this.rb⟩
theorem ZjM:∀l:List Tr,(∀t∈l,t.mea.b=t.bytes)->(QI (l.map Tr.mea)).b=Tr.bytesL l
 | [],_=>rfl
 | t::l,h=>by
  rw[jC,QI,Mea.add,Tr.bytesL]
  simp only
  rw[h t (by simp),ZjM l (fun u hu=>h u (by simp[hu]))]
theorem Val.mea_ok{N:ZO}{t:Tr}(hv:Val N t):t.mea.b=t.bytes/\t.mea.Chn:=by
 induction hv with
 | @kept o h m k x h0 hx hok hh hm hk =>
  rw[ZO6 h0]
  refine⟨?_,by rw[<- hm];exact hok.chn⟩
  rw[Tr.bytes,Tr.bytesO_getD,hk];simp[Tr.bytesL]
 | @leaf s k h1 h2 hk =>
  rw[ZO5];refine⟨?_,Zhm s⟩;rw[Tr.bytes,Tr.bytesO_getD,hk];simp[Tr.bytesL,Yw,Mea.zero]
 | @inner h l hh h2 h4 hl hb hv ih =>
  rw[Zf4]
  refine⟨?_,ZaH (fun m hm=>?_)⟩
  ·rw[ZjM l (fun u hu=>(ih u hu).1),Tr.bytes,Tr.bytesO];simp[Mea.zero]
  ·obtain⟨u,hu,rfl⟩:=List.mem_map.1 hm
   exact (ih u hu).2
theorem Val.mea_fit{N:ZO}{t:Tr}(hv:Val N t)(hb:t.bytes<=65536):t.mea.Fit 65536:=by
 obtain⟨h1,h2⟩:=hv.mea_ok;obtain⟨c1,c2,c3⟩:=h2
 constructor<;>omega
mutual
inductive AddT:Tr->Nat->List It->List (Nat × Ro)->Prop
 | kept {o h m k rx} (h0:o≠0):AddT (.mk o h m [] k) rx [] [(rx,⟨o,h,m⟩)]
 | leaf {s k rx}:AddT (.mk 0 0 .zero s k) rx [⟨rx,.leaf s⟩] [(rx,⟨0,0,Yw s⟩)]
 | inner {h l rx rs its R} (hl:AddL l rs its R) (hn:(R.map Prod.fst).Nodup) (hx:rx∉R.map Prod.fst):AddT (.mk 0 (h+1) .zero [] (some l)) rx (its++[⟨rx,.inn (h+1) rs⟩]) (R++[(rx,⟨0,h+1,QI (l.map Tr.mea)⟩)])
inductive AddL:List Tr->List Nat->List It->List (Nat × Ro)->Prop
 | nil:AddL [] [] [] []
 | cons {t l rx rs i1 i2 R1 R2} (ht:AddT t rx i1 R1) (hl:AddL l rs i2 R2):AddL (t::l) (rx::rs) (i1++i2) (R1++R2)
end
theorem AddL.snoc{t:Tr}{rx:Nat}{i1:List It}{R1:List (Nat × Ro)}(ht:AddT t rx i1 R1):∀ {l:List Tr} {rs:List Nat} {its:List It} {R:List (Nat × Ro)},AddL l rs its R->AddL (l++[t]) (rs++[rx]) (its++i1) (R++R1)
 | _,_,_,_,.nil=>by have:=AddL.cons ht .nil;simpa using this
 | _,_,_,_,.cons h g=>by
  have:=AddL.cons h (AddL.snoc ht g)
  simpa [List.append_assoc] using this
theorem AddL.len:∀ {l:List Tr} {rs:List Nat} {its:List It} {R:List (Nat × Ro)},AddL l rs its R->rs.length=l.length
 | _,_,_,_,.nil=>rfl
 | _,_,_,_,.cons h g=>by simp[g.len]
mutual
theorem AddT.cnt:∀ {t:Tr} {rx:Nat} {its:List It} {R:List (Nat × Ro)},AddT t rx its R->its.length<=t.cnt
 | _,_,_,_,.kept h0=>Nat.zero_le _
 | _,_,_,_,.leaf=>by rw[Tr.cnt];simp
 | _,_,_,_,.inner hl hn hx=>by
  have:=AddL.cnt hl
  rw[Tr.cnt,Tr.cntO];simp;omega
theorem AddL.cnt:∀ {l:List Tr} {rs:List Nat} {its:List It} {R:List (Nat × Ro)},AddL l rs its R->its.length<=Tr.cntL l
 | _,_,_,_,.nil=>Nat.le_refl _
 | _,_,_,_,.cons h g=>by
  have h1:=h.cnt;have h2:=g.cnt;rw[Tr.cntL];simp;omega
end
def No5(F:List (Nat × Blk)):Prop:=∀p∈F,∃w v es,p.2=Blk.arr w v es/\w≠5
theorem No5.nil:No5 []:=fun p hp=>by simp at hp
theorem No5.cons{F:List (Nat × Blk)}{i w v:Nat}{es:LV}(hw:w≠5)(h:No5 F):No5 ((i,Blk.arr w v es)::F):=fun p hp=>by
 rcases List.mem_cons.1 hp with rfl|q
 ·exact⟨w,v,es,rfl,hw⟩
 ·exact h p q
theorem No5.append{F G:List (Nat × Blk)}(h:No5 F)(g:No5 G):No5 (F++G):=fun p hp=>by
 rcases List.mem_append.1 hp with q|q
 ·exact h p q
 ·exact g p q
structure Added(A:List (Bool × List Blk))(L:List Blk)(ip:Nat)(a td:AV)(cls:LV)(t:Tr)(L':List Blk)(td':AV)(rx:Nat)(its:List It)(cs:LV)(R:List (Nat × Ro))(F:List (Nat × Blk)):Prop where
 pen:Pen A L' ip a td' (cls++cs)
 frm:Frm L (Ym ip td) L' (Ym ip td')
 fx:Fx L' (Ym ip td') F
 rts:Rx L' (Ym ip td') R
 flo:∀p∈F,L.length<=p.1
 rlo:∀p∈R,L.length<=p.1
 cl:ClsOk A.length ip F cs its
 tr:AddT t rx its R
 nd:(R.map Prod.fst).Nodup
 fw:No5 F
theorem Rx.one{L:List Blk}{X:Nat->Prop}{i:Nat}{r:Ro}(h:L[i]?=some (.arr 5 0 [r.av]))(hn:¬ X i):Rx L X [(i,r)]:=by
 intro p hp;simp only[jC,List.map_nil,List.mem_singleton]at hp;subst hp;exact⟨h,hn⟩
theorem Zni{A:List (Bool × List Blk)}{L:List Blk}{ip:Nat}{a td:AV}{cls:LV}(h:Pen A L ip a td cls){o hh:Nat}{m:Mea}{k:Option (List Tr)}(h0:o≠0)(hk:k.getD []=[]):
 ∃L' td' rx its cs R F,S Tb Qr [.ptr A.length ip 0 0 0,(Tr.mk o hh m [] k).av] ⟨A,false,L⟩=some (.ptr A.length rx 0 0 0,⟨A,false,L'⟩)/\Added A L ip a td cls (.mk o hh m [] k) L' td' rx its cs R F:=by
 refine⟨L++[.arr 7 0 [(Tr.mk o hh m [] k).av],.arr 5 0 [Ro.av ⟨o,hh,m⟩]],td,L.length+1,[],[],[(L.length+1,⟨o,hh,m⟩)],[],ZAQ Y ?_,?_⟩
 ·have e0:(⟨A,false,L⟩:St)=⟨A,false,L++[]⟩:=by rw[lN]
  rw[e0]
  obtain⟨ka,hka,hka2⟩:∃ka,Tr.avO k=ka/\(ka=.nils\/ka=.lit []):=by
   cases k with
   | none=>exact⟨_,rfl,.inl Y⟩
   | some l=>have:l=[]:=hk;subst this;exact⟨_,rfl,.inr Y⟩
  simp only[Tr.av,hka]at *
  rcases hka2 with rfl|rfl
  all_goals repeat'(first|refine Yy Y Y Y Y Y ?_|refine ZAU Y Y Y Y ?_|refine ZE ?_|refine ZD ?_|refine ZF Y ?_|refine ZU Y Y ?_|refine Q6 Y Y ?_|refine ZsZ Y ?_|refine Zl Y Y Y Y ?_|refine ZB Y ?_|refine ZC ?_|(refine cm0 Y Y Y ?_ ?_<;>intro _<;>try omega)|refine ZS Y ?_|refine Zw Y Y Y ?_|refine ZI ?_|refine ZP ?_|refine ZJ ?_|refine ZL ?_|refine Zz ?_)
  all_goals try omega
  all_goals refine (YG (.inr Y) Y Y Y Y).trans ?_
  all_goals rfl
 ·refine⟨by rw[lN];exact h.app _,.app _,fun p hp=>by simp at hp,Rx.one ?_ (fun q=>by have:=h.lt q;omega),fun p hp=>by simp at hp,fun p hp=>?_,.nil,.kept h0,by simp,.nil⟩
  ·exact QS (i:=1)
  ·simp only[List.mem_singleton]at hp;subst hp;simp
theorem Znj{A:List (Bool × List Blk)}{L:List Blk}{ip:Nat}{a td:AV}{cls:LV}(h:Pen A L ip a td cls)(hl:cls.length<1000000){s:B8}{k:Option (List Tr)}(hs:ZB0 s)(hk:k.getD []=[]):
 ∃L' td' rx its cs R F,S Tb Qr [.ptr A.length ip 0 0 0,(Tr.mk 0 0 .zero s k).av] ⟨A,false,L⟩=some (.ptr A.length rx 0 0 0,⟨A,false,L'⟩)/\Added A L ip a td cls (.mk 0 0 .zero s k) L' td' rx its cs R F:=by
 obtain⟨T,hT⟩:∃T:List Blk,T=[.arr 7 0 [(Tr.mk 0 0 .zero s k).av],.arr 5 0 [Ro.av ⟨0,0,Yw s⟩],.arr 3 0 [.agg [.int .i64 0,.str s,.nils]]]:=⟨_,rfl⟩
 have hlen:T.length=3:=by rw[hT];rfl
 obtain⟨L1,td1,hS,hp,hf,hx⟩:=Zq7 (h.app T) (rx:=L.length+1) (Cv.one (n:=A.length) (L.length+2)) hl
 have hM:=fun st=>ZMJ ⟨0,s,none⟩ (.inl ⟨rfl,hs.1,hs.2,rfl⟩) st
 have hm0:Nd.mea ⟨0,s,none⟩=Yw s:=rfl;rw[hm0]at hM
 have hne:s≠[]:=fun q=>by rw[q]at hs;have:=hs.1;simp at this
 have hff:=(Frm.app (L:=L) (X:=Ym ip td) T).trans hf
 have hltX:∀i,Ym ip td i->i<L.length:=fun i hi=>h.lt hi
 have hnX:∀i,L.length<=i->i<L.length+3->¬ Ym ip td1 i:=fun i h1 h2 q=>by
  rcases hf.own i q with w|w
  ·have:=hltX i w;omega
  ·rw[lL]at w;omega
 have hg:∀j b,T[j]?=some b->L1[L.length+j]?=some b:=fun j b hb=>by
  have hj:=(List.getElem?_eq_some_iff.1 hb).1
  rw[hf.old _ (by rw[lL];omega) (fun q=>by have:=hltX _ q;omega),QS];exact hb
 refine⟨L1,td1,L.length+1,[⟨L.length+1,.leaf s⟩],_,[(L.length+1,⟨0,0,Yw s⟩)],(L.length+2,Blk.arr 3 0 [.agg [.int .i64 0,.str s,.nils]])::[((L++T).length,Blk.arr 1 0 [.ptr A.length ip 0 0 0]),((L++T).length+1,Blk.arr 1 0 [.ptr A.length (L.length+1) 0 0 0]),((L++T).length+2,Blk.arr 1 0 [.func (.func Jy) [] [.ptr A.length (L.length+2) 0 0 0]])],ZAQ Y ?_,⟨hp,hff,?_,Rx.one (hg 1 _ (by rw[hT];rfl)) (hnX _ (by omega) (by omega)),?_,?_,.cons ⟨_,_,_,_,rfl,List.mem_cons_of_mem _ ?_,List.mem_cons_of_mem _ ?_,List.mem_cons_of_mem _ ?_,⟨L.length+2,rfl,?_⟩⟩ .nil,.leaf,by simp,.cons (by decide) (.cons (by decide) (.cons (by decide) (.cons (by decide) .nil)))⟩⟩
 ·have e0:(⟨A,false,L⟩:St)=⟨A,false,L++[]⟩:=by rw[lN]
  rw[e0]
  obtain⟨ka,hka,hka2⟩:∃ka,Tr.avO k=ka/\(ka=.nils\/ka=.lit []):=by
   cases k with
   | none=>exact⟨_,rfl,.inl Y⟩
   | some l=>have:l=[]:=hk;subst this;exact⟨_,rfl,.inr Y⟩
  rw[hT]at hS
  simp only[Tr.av,Nd.av,slV,Mea.zero,hka]at *
  rcases hka2 with rfl|rfl
  all_goals repeat'(first|refine Yy Y Y Y Y Y ?_|refine ZAU Y Y Y Y ?_|refine ZMP Y Y Y Y Y Y Y ?_|refine ZE ?_|refine ZD ?_|refine ZF Y ?_|refine ZU Y Y ?_|refine QB Y ?_|refine Q6 Y Y ?_|refine Zl Y Y Y Y ?_|refine Zr Y Y ?_|refine ZB Y ?_|refine ZC ?_|refine Z2 Y Y ?_|(refine cm0 Y Y Y ?_ ?_<;>intro _<;>try omega)|(refine ZAG Y Y (fun _=>?_) (fun _=>?_)<;>try contradiction)|refine ZS Y ?_|refine ZG Y ?_|refine Zw Y Y Y ?_|refine ZAP Y Y ?_|refine ZA Y Y Y (hM _) ?_|refine ZA Y Y Y (hS) ?_|refine ZP ?_|refine ZJ ?_|refine ZL ?_|refine Zz ?_)
  all_goals try contradiction
  all_goals exact YG (.inr Y) Y Y Y Y
 ·intro p hp
  rcases List.mem_cons.1 hp with rfl|q
  ·exact⟨hg 2 _ (by rw[hT];rfl),hnX _ (by omega) (by omega)⟩
  ·exact hx p q
 ·intro p hp
  simp only[List.mem_cons,List.not_mem_nil,or_false,lL]at hp
  rcases hp with rfl|rfl|rfl|rfl<;>simp only<;>omega
 ·intro p hp
  simp only[List.mem_singleton]at hp;subst hp;simp
 ·simp
 ·simp
 ·simp
 ·simp
theorem ZqS{k:List Fr}{Q:YD}{A:List (Bool × List Blk)}{X:List Blk}{jb rx:Nat}{o hh v0 v3 v7 v20 v21 v22:AV}{mb mr ml:Int}{r:Ro}(h1:X[jb]?=some (Blk.arr 5 0 [.agg [o,hh,.int .i64 mb,.int .i64 mr,.int .i64 ml]]))(h2:X[rx]?=some (Blk.arr 5 0 [r.av]))(hne:jb≠rx)
 (hb:0<=mb/\mb<=262144/\0<=mr/\mr<=262144/\0<=ml/\ml<=262144) (hr:0<=r.m.b/\r.m.b<=65536/\0<=r.m.r/\r.m.r<=65536/\0<=r.m.l/\r.m.l<=65536)
 (h:Rk (S Tb) k Q .norm [(0,v0),(3,v3),(5,.ptr A.length jb 0 0 0),(7,v7),(20,v20),(21,v21),(22,v22)] ⟨A,false,X.set jb (.arr 5 0 [.agg [o,hh,.int .i64 (mb+r.m.b),.int .i64 (mr+r.m.r),.int .i64 (ml+r.m.l)]])⟩) :
 Ru (S Tb) (.seq ZD1 (.seq ZD2 ZD3)) k Q [(0,v0),(3,v3),(5,.ptr A.length jb 0 0 0),(7,v7),(10,.ptr A.length rx 0 0 0),(20,v20),(21,v21),(22,v22)] ⟨A,false,X⟩:=by
 have hlt:=(List.getElem?_eq_some_iff.1 h1).1
 have h3:∀b,(X.set jb b)[rx]?=some (Blk.arr 5 0 [r.av]):=fun b=>by rw[jS hne];exact h2
 unfold Ro.av at h2 h3
 repeat'(first|refine ZV Y h1 Y Y ?_|refine ZV Y h2 Y Y ?_|refine ZE ?_|refine ZD ?_|refine ZF Y ?_|refine ZU Y Y ?_|refine Z2 Y Y ?_|refine Zj Y Y (by omega) ?_)
 refine JB h1 Y Y Y Y Y ?_
 repeat'(first|refine ZV Y (List.getElem?_set_self hlt) Y Y ?_|refine ZV Y (h3 _) Y Y ?_|refine ZE ?_|refine ZD ?_|refine ZF Y ?_|refine ZU Y Y ?_|refine ZB Y ?_|refine ZC ?_|refine Z2 Y Y ?_|refine Zj Y Y (by omega) ?_)
 refine JB (List.getElem?_set_self hlt) Y Y Y Y Y ?_;rw[List.set_set]
 repeat'(first|refine ZV Y (List.getElem?_set_self hlt) Y Y ?_|refine ZV Y (h3 _) Y Y ?_|refine ZD ?_|refine ZF Y ?_|refine ZU Y Y ?_|refine ZB Y ?_|refine ZC ?_|refine Z2 Y Y ?_|refine Zj Y Y (by omega) ?_)
 refine JB (List.getElem?_set_self hlt) Y Y Y Y Y ?_;rw[List.set_set];refine ZB Y ?_;exact h
end Go.Q15
namespace Go.Q15
open Go Go.QAbs
variable {r':AR}{a cv td v:AV}{ro:Bool}{e:Env}{f:FuncId}{it:It}{A:List (Bool × List Blk)}{args caps cls es:LV}{L':List Blk}{ip ix j la mx n ob ox ver w wb:Nat}{x:Nd}{st:St}{t:Tr}
structure AInv(A:List (Bool × List Blk))(L:List Blk)(ip:Nat)(a td:AV)(cls:LV)(h:Nat)(l:List Tr)(i:Nat)(Li:List Blk)(td':AV)(rs:List Nat)(its:List It)(cs:LV)(R:List (Nat × Ro))(F:List (Nat × Blk)):Prop where
 le:i<=l.length
 pen:Pen A Li ip a td' (cls++cs)
 frm:Frm L (Ym ip td) Li (Ym ip td')
 fx:Fx Li (Ym ip td') F
 rts:Rx Li (Ym ip td') R
 flo:∀p∈F,L.length+4<=p.1
 rlo:∀p∈R,L.length+4<=p.1
 plo:∀j,Ym ip td' j->Ym ip td j\/L.length+4<=j
 nd:(R.map Prod.fst).Nodup
 cl:ClsOk A.length ip F cs its
 tr:AddL (l.take i) rs its R
 len:L.length+4<=Li.length
 b0:Li[L.length]?=some (.arr 7 0 [(Tr.mk 0 (h+1) .zero [] (some l)).av])
 b1:Li[L.length+1]?=some (.arr 5 0 [Ro.av ⟨0,h+1,QI ((l.take i).map Tr.mea)⟩])
 b2:Li[L.length+2]?=some (.arr 1 i (ZO4 A.length rs))
 b3:Li[L.length+3]?=some (.arr 1 0 [.ref A.length (L.length+2) i 0 i])
 fw:No5 F
theorem Znk(n:Nat)(st:St)(r:Nat):mapSt (ZZ QD (n+1)) st [.ptr n r 0 0 0]=some ([.ptr n r 0 0 0],st):=by
 simp only[mapSt,ZZ,QD,if_pos (Nat.lt_succ_self n),oS,XQ]
theorem Zsh(h:weak a=a)(t:Tr):ZY (Zg ([]++[a,t.av]++[]))=some [a,t.av]:=by
 simp only[lE,lN,lC,Zg,ZX,ZY,h]
theorem ZqT{L:List Blk}{X:Nat->Prop}{R:List (Nat × Ro)}(h:Rx L X R):∀k∈R.map Prod.fst,k<L.length:=by
 intro k hk;obtain⟨p,hp,rfl⟩:=List.mem_map.1 hk;exact (List.getElem?_eq_some_iff.1 (h.get hp).1).1
theorem AInv.step{L:List Blk}(hP:Pen A L ip a td cls){h:Nat}{l:List Tr}{i:Nat}{Li:List Blk}{td1:AV}{rs:List Nat}{its:List It}{cs:LV}{R:List (Nat × Ro)}{F:List (Nat × Blk)}
 (hi:AInv A L ip a td cls h l i Li td1 rs its cs R F) {u:Tr} (hu:l[i]?=some u) {B:Blk} {L1:List Blk} {td2:AV} {rx:Nat} {its2:List It} {cs2:LV} {R2:List (Nat × Ro)} {F2:List (Nat × Blk)} (ha:Added A (Li++[B]) ip a td1 (cls++cs) u L1 td2 rx its2 cs2 R2 F2)
 {T:List Blk} {L2:List Blk} (hl2:L2.length=(L1++T).length) (hold:∀j,j<L1.length->j≠L.length+1->j≠L.length+2->j≠L.length+3->L2[j]?=L1[j]?)
 (b1:L2[L.length+1]?=some (.arr 5 0 [Ro.av ⟨0,h+1,QI ((l.take (i+1)).map Tr.mea)⟩])) (b2:L2[L.length+2]?=some (.arr 1 (i+1) (ZO4 A.length (rs++[rx])))) (b3:L2[L.length+3]?=some (.arr 1 0 [.ref A.length (L.length+2) (i+1) 0 (i+1)])) :
 AInv A L ip a td cls h l (i+1) L2 td2 (rs++[rx]) (its++its2) (cs++cs2) (R++R2) (F++F2):=by
 have hlt:=(List.getElem?_eq_some_iff.1 hu).1;have hlen:=hi.len;have hl1:=ha.frm.len;rw[lL,List.length_singleton]at hl1;rw[lL]at hl2
 have hX1:∀j,Ym ip td1 j->j<Li.length:=fun j hj=>hi.pen.lt hj
 have plo2:∀j,Ym ip td2 j->Ym ip td j\/L.length+4<=j:=fun j hj=>by
  rcases ha.frm.own j hj with q|q
  ·exact hi.plo j q
  ·rw[lL,List.length_singleton]at q;exact .inr (by omega)
 have hltL:∀j,Ym ip td j->j<L.length:=fun j hj=>hP.lt hj
 have hfrm:Frm L1 (Ym ip td2) L2 (Ym ip td2)->Frm L1 (Ym ip td2) L2 (Ym ip td2):=id
 -- what is ZsX of L1 stays in L2
 have keep:∀ {j:Nat} {b:Blk},L1[j]?=some b->j≠L.length+1->j≠L.length+2->j≠L.length+3->L2[j]?=some b:=fun {j b} hb n1 n2 n3=>by
  rw[hold j (List.getElem?_eq_some_iff.1 hb).1 n1 n2 n3];exact hb
 have f1:=(Frm.app (L:=Li) (X:=Ym ip td1) [B]).trans ha.frm;have k1:Fx L1 (Ym ip td2) F:=hi.fx.frm f1;have k2:Rx L1 (Ym ip td2) R:=hi.rts.frm f1
 have lo2:∀p∈R2,Li.length+1<=p.1:=fun p hp=>by have:=ha.rlo p hp;rwa [lL,List.length_singleton]at this
 have flo2:∀p∈F2,Li.length+1<=p.1:=fun p hp=>by have:=ha.flo p hp;rwa [lL,List.length_singleton]at this
 refine⟨hlt,?_,?_,?_,?_,?_,?_,plo2,?_,?_,?_,by omega,?_,b1,b2,b3,hi.fw.append ha.fw⟩
 ·rw[<- List.append_assoc]
  refine ha.pen.frm fun j hj=>hold j (ha.pen.lt hj) ?_ ?_ ?_<;>intro q<;>rcases plo2 j hj with w|w<;>first|omega|(have:=hltL j w;omega)
 ·refine⟨by have:=hi.frm.len;omega,fun j hj hn=>?_,fun j hj=>?_⟩
  ·have hn1:¬ Ym ip td1 j:=fun q=>by rcases hi.plo j q with w|w;exact hn w;omega
   rw[hold j (by omega) (by omega) (by omega) (by omega),f1.old j (by omega) hn1,hi.frm.old j hj hn]
  ·rcases plo2 j hj with q|q
   ·exact .inl q
   ·exact .inr (by omega)
 ·refine Fx.append (fun p hp=>?_) (fun p hp=>?_)
  ·have:=hi.flo p hp
   exact⟨keep (k1 p hp).1 (by omega) (by omega) (by omega),(k1 p hp).2⟩
  ·have:=flo2 p hp
   exact⟨keep (ha.fx p hp).1 (by omega) (by omega) (by omega),(ha.fx p hp).2⟩
 ·refine Rx.append (fun p hp=>?_) (fun p hp=>?_)
  ·obtain⟨q,hq,rfl⟩:=List.mem_map.1 hp
   have:=hi.rlo q hq
   exact⟨keep (k2.get hq).1 (by simp only;omega) (by simp only;omega) (by simp only;omega),(k2.get hq).2⟩
  ·obtain⟨q,hq,rfl⟩:=List.mem_map.1 hp
   have:=lo2 q hq
   exact⟨keep (ha.rts.get hq).1 (by simp only;omega) (by simp only;omega) (by simp only;omega),(ha.rts.get hq).2⟩
 ·intro p hp
  rcases List.mem_append.1 hp with q|q
  ·exact hi.flo p q
  ·have:=flo2 p q;omega
 ·intro p hp
  rcases List.mem_append.1 hp with q|q
  ·exact hi.rlo p q
  ·have:=lo2 p q;omega
 ·rw[List.map_append,List.nodup_append]
  refine⟨hi.nd,?_,?_⟩
  ·exact ha.nd
  ·intro x hx y hy e
   subst e;have h1:=ZqT hi.rts x hx;obtain⟨p,hp,rfl⟩:=List.mem_map.1 hy
   have:=lo2 p hp
   omega
 ·exact (hi.cl.mono (fun p hp=>by simp[hp])).append (ha.cl.mono (fun p hp=>by simp[hp]))
 ·rw[ZW hu]
  exact hi.tr.snoc ha.tr
 ·have hb0:=hi.b0
  rw[<- f1.old _ (by omega) (fun q=>by rcases hi.plo _ q with w|w;have:=hltL _ w;omega;omega)]at hb0
  exact keep hb0 (by omega) (by omega) (by omega)
theorem AddT.root{rx:Nat}{its:List It}{R:List (Nat × Ro)}(h:AddT t rx its R):∃r:Ro,(rx,r)∈R/\r.m=t.mea/\r.h=t.h:=by
 cases h with
 | @kept o h m k _ h0=>exact⟨⟨o,h,m⟩,by simp,(ZO6 h0).symm,rfl⟩
 | @leaf s k _=>exact⟨⟨0,0,Yw s⟩,by simp,(ZO5 _ _).symm,rfl⟩
 | @inner h l _ rs its R hl hn hx=>exact⟨⟨0,h+1,QI (l.map Tr.mea)⟩,by simp,(Zf4 _ _).symm,rfl⟩
theorem Zrg {l:List Tr} {A:List (Bool × List Blk)} (ih:∀u∈l,∀ {L:List Blk} {ip:Nat} {a td:AV} {cls:LV},Pen A L ip a td cls->cls.length+u.cnt<1000000 ->
 ∃L' td' rx its cs R F,S Tb Qr [.ptr A.length ip 0 0 0,u.av] ⟨A,false,L⟩=some (.ptr A.length rx 0 0 0,⟨A,false,L'⟩)/\Added A L ip a td cls u L' td' rx its cs R F)
 (hl4:1<=l.length/\l.length<=4) (hfit:∀u∈l,u.mea.Fit 65536) {h:Nat} (hh:h<=16) {L:List Blk} {ip:Nat} {a td:AV} {cls:LV} (hP:Pen A L ip a td cls) (hc:cls.length+(Tr.mk 0 (h+1) .zero [] (some l)).cnt<1000000) :
 ∃L' td' rx its cs R F,S Tb Qr [.ptr A.length ip 0 0 0,(Tr.mk 0 (h+1) .zero [] (some l)).av] ⟨A,false,L⟩=some (.ptr A.length rx 0 0 0,⟨A,false,L'⟩)/\Added A L ip a td cls (.mk 0 (h+1) .zero [] (some l)) L' td' rx its cs R F:=by
 have hav:(Tr.mk 0 (h+1) .zero [] (some l)).av=.agg [.int .u64 (0:Nat),.int .i64 ((h+1:Nat):Int),.int .i64 0,.int .i64 0,.int .i64 0,.str [],.lit (l.map Tr.av)]:=by
  rw[Tr.av,Tr.avO_sl];rfl
 have hcn:(Tr.mk 0 (h+1) .zero [] (some l)).cnt=1+Tr.cntL l:=by rw[Tr.cnt,Tr.cntO];simp
 rw[hcn]at hc
 have hltL:∀j,Ym ip td j->j<L.length:=fun j hj=>hP.lt hj
 have hmain:Sp Tb Qr [.ptr A.length ip 0 0 0,(Tr.mk 0 (h+1) .zero [] (some l)).av] ⟨A,false,L⟩ fun v st'=>∃L' td' rx its cs R F,v=.ptr A.length rx 0 0 0/\st'=⟨A,false,L'⟩/\Added A L ip a td cls (.mk 0 (h+1) .zero [] (some l)) L' td' rx its cs R F:=by
  refine Zj0 Y ?_
  have e0:(⟨A,false,L⟩:St)=⟨A,false,L++[]⟩:=by rw[lN]
  rw[e0,hav]
  repeat'(first|refine Yy Y Y Y Y Y ?_|refine ZAU Y Y Y Y ?_|refine ZjK Y ?_|refine ZE ?_|refine ZD ?_|refine ZF Y ?_|refine ZU Y Y ?_|refine QB Y ?_|refine Zl Y Y Y Y ?_|refine ZB Y ?_|refine ZC ?_|refine QL Y ?_|(refine cm0 Y Y Y ?_ ?_<;>intro _<;>try omega)|(refine ZAG Y Y (fun _=>?_) (fun _=>?_)<;>try contradiction)|refine ZG Y ?_|refine Zw Y Y Y ?_|refine ZJ ?_)
  refine Zt (α:=Nat × List Blk) (fun p=>[(0,.ptr A.length ip 0 0 0),(3,.ptr A.length L.length 0 0 0),(5,.ptr A.length (L.length+1) 0 0 0),(7,.ptr A.length (L.length+3) 0 0 0),(20,.lit (l.map Tr.av)),(21,.int .i64 l.length),(22,.int .i64 p.1)])
   (fun p=>⟨A,false,p.2⟩) (fun p=>∃td' rs its cs R F,AInv A L ip a td cls h l p.1 p.2 td' rs its cs R F) (fun p=>l.length-p.1) (0,_) ?_ rfl ?_ ?_
  ·simp
  ·refine⟨td,[],[],[],[],[],Nat.zero_le _,?_,.app _,fun p hp=>by simp at hp,fun p hp=>by simp at hp,fun p hp=>by simp at hp,fun p hp=>by simp at hp,fun j hj=>.inl hj,by simp,.nil,.nil,by simp,?_,?_,?_,?_,.nil⟩
   ·rw[lN];exact hP.app _
   ·exact (QS (i:=0)).trans (by rw[hav];rfl)
   ·exact QS (i:=1)
   ·exact QS (i:=2)
   ·exact QS (i:=3)
  rintro⟨i,Li⟩ ⟨td1,rs,its,cs,R,F,hi⟩
  simp only at hi ⊢
  have hle:=hi.le
  have hrs:rs.length=i:=by rw[hi.tr.len,List.length_take];omega
  have hplen:i=(ZO4 A.length rs).length:=by simp[ZO4,hrs]
  have hll:=hi.len
  rcases Nat.lt_or_ge i l.length with hlt|hge
  ·obtain⟨u,hu⟩:∃u,l[i]?=some u:=⟨l[i]'hlt,by simp[hlt]⟩
   have hum:=jM hu
   have ht1:0<=((i:Nat):Int)/\l[((i:Nat):Int).toNat]?=some u:=⟨by omega,by rw[show ((i:Nat):Int).toNat=i by omega];exact hu⟩
   have hc1:(cls++cs).length+u.cnt<1000000:=by
    have h1:=hi.cl.len;have h2:=hi.tr.cnt
    have h3:Tr.cntL l=Tr.cntL (l.take i)+(u.cnt+Tr.cntL (l.drop (i+1))):=by
     conv=>lhs;rw[<- List.take_append_drop (i+1) l,ZW hu,Tr.cntL_append,Tr.cntL_append]
     simp[Tr.cntL];omega
    rw[lL];omega
   obtain⟨L1,td2,rx,its2,cs2,R2,F2,hS,ha⟩:=ih u hum (hi.pen.app [Blk.arr 7 0 [u.av]]) hc1;obtain⟨r,hr,hrm,hrh⟩:=ha.tr.root;have hrx:=ha.rlo _ hr;have hrg:=(ha.rts.get hr).1
   simp only at hrx hrg
   rw[lL,List.length_singleton]at hrx;have f1:=(Frm.app (L:=Li) (X:=Ym ip td1) [Blk.arr 7 0 [u.av]]).trans ha.frm
   have hnx:∀j,j<4->¬ Ym ip td1 (L.length+j):=fun j hj q=>by
    rcases hi.plo _ q with w|w
    ·have:=hltL _ w;omega
    ·omega
   have g1:=hi.b1;have g2:=hi.b2;have g3:=hi.b3
   rw[<- f1.old _ (by omega) (hnx 1 (by omega))]at g1
   rw[<- f1.old _ (by omega) (hnx 2 (by omega))]at g2
   rw[<- f1.old _ (by omega) (hnx 3 (by omega))]at g3
   have hl1:=ha.frm.len;rw[lL,List.length_singleton]at hl1
   have gA2:∀T,(L1++T)[L.length+2]?=some (.arr 1 i (ZO4 A.length rs)):=fun T=>ZAu g2
   have gA3:∀T b,((L1++T).set (L.length+2) b)[L.length+3]?=some (.arr 1 0 [.ref A.length (L.length+2) i 0 i]):=fun T b=>by
    rw[jS (by omega)];exact ZAu g3
   have gA1:∀T b c,(((L1++T).set (L.length+2) b).set (L.length+3) c)[L.length+1]?=some (.arr 5 0 [.agg [.int .u64 (0:Nat),.int .i64 ((h+1:Nat):Int),.int .i64 (QI ((l.take i).map Tr.mea)).b,.int .i64 (QI ((l.take i).map Tr.mea)).r,.int .i64 (QI ((l.take i).map Tr.mea)).l]]):=fun T b c=>by
    rw[jS (by omega),jS (by omega)];exact ZAu g1
   have gAr:∀T b c,(((L1++T).set (L.length+2) b).set (L.length+3) c)[rx]?=some (.arr 5 0 [r.av]):=fun T b c=>by
    rw[jS (by omega),jS (by omega)];exact ZAu hrg
   have hsf:=ZJS (l:=(l.take i).map Tr.mea) (fun m hm=>by obtain⟨w,hw,rfl⟩:=List.mem_map.1 hm;exact hfit w (List.mem_of_mem_take hw))
   have hsl:(((l.take i).map Tr.mea).length:Int)*65536<=262144:=by simp;omega
   have huf:=hfit u hum;rw[<- hrm]at huf;obtain⟨s1,s2,s3,s4,s5,s6⟩:=hsf;obtain⟨m1,m2,m3,m4,m5,m6⟩:=huf
   have hbb:0<=(QI ((l.take i).map Tr.mea)).b/\(QI ((l.take i).map Tr.mea)).b<=262144/\0<=(QI ((l.take i).map Tr.mea)).r/\(QI ((l.take i).map Tr.mea)).r<=262144/\0<=(QI ((l.take i).map Tr.mea)).l/\(QI ((l.take i).map Tr.mea)).l<=262144:=⟨s1,by omega,s3,by omega,s5,by omega⟩
   have hpl:(ZO4 A.length rs).length+[AV.ptr A.length rx 0 0 0].length<4294967296:=by simp;omega
   repeat'(first|refine QY Y Y ht1 Z6 ?_|refine ZqS (gA1 _ _ _) (gAr _ _ _) (by omega) hbb ⟨m1,m2,m3,m4,m5,m6⟩ ?_|refine ZE ?_|refine ZD ?_|refine ZF Y ?_|refine ZB Y ?_|refine ZC ?_|(refine cm0 Y Y Y ?_ ?_<;>intro _<;>try omega)|refine ZS Y ?_|refine Zj Y Y (by omega) ?_|refine Z0 Y Y Y ?_|refine QF Y (Zp _) ?_|refine Ql Y Y (Zp _) ?_|refine J9 Y Y Y (QQ _ _ _) (Qx _ _) Y ?_|refine ZA Y Y (by first|rfl|(simp only[lE,lN,lC,Zg,ZX,ZY];first|done|rfl)) (hS) ?_|refine ZV Y g3 Y Y ?_|refine ZkK Y Y ?_|refine Zhk (ys:=[.ptr A.length rx 0 0 0]) Y Y (ZR9 _ _ []) (gA2 _) hplen Y (Znk _ _ _) hpl (by decide) ?_|refine JB (gA3 _ _) Y Y Y (Jc _ (Nat.lt_succ_self _)) Y ?_|refine ZI ?_|refine ZJ ?_|refine Zz ?_|refine Z7 ?_)
   have hT3:(((L1++[Blk.arr 1 0 [.ptr A.length rx 0 0 0]]).set (L.length+2) (.arr 1 (i+1) (ZO4 A.length rs++[.ptr A.length rx 0 0 0]))).set (L.length+3) (.arr 1 0 ([AV.ref A.length (L.length+2) i 0 i].set 0 (.ref A.length (L.length+2) (i+1) 0 (i+[AV.ptr A.length rx 0 0 0].length))))).length=(L1++[Blk.arr 1 0 [.ptr A.length rx 0 0 0]]).length:=by simp
   refine⟨(i+1,_),⟨rfl,rfl⟩,⟨td2,rs++[rx],its++its2,cs++cs2,R++R2,F++F2,hi.step hP hu ha (T:=[Blk.arr 1 0 [.ptr A.length rx 0 0 0]]) (by simp) ?_ ?_ ?_ ?_⟩,by simp only;omega⟩
   ·intro j hj n1 n2 n3
    rw[jS (by omega),jS (by omega),jS (by omega),jL hj]
   ·rw[List.getElem?_set_self (by rw[hT3,lL];omega),ZW hu,List.map_append,ZJR]
    rw[jC,List.map_nil,QI,QI,Mea.add_zero,<- hrm];rfl
   ·rw[jS (by omega),jS (by omega),List.getElem?_set_self (by rw[lL];omega)]
    simp[ZO4]
   ·rw[jS (by omega),List.getElem?_set_self (by rw[List.length_set,lL];omega)]
    rfl
  ·obtain rfl:i=l.length:=by omega
   have htr:=hi.tr;have g1:=hi.b1;rw[List.take_length]at htr g1;have g0:=hi.b0
   have g2:Li[L.length+2]?=some (.arr 1 rs.length (ZO4 A.length rs)):=by rw[hrs];exact hi.b2
   have g3:Li[L.length+3]?=some (.arr 1 0 [.ref A.length (L.length+2) rs.length 0 rs.length]):=by rw[hrs];exact hi.b3
   have hcl:(cls++cs).length<1000000:=by
    have h1:=hi.cl.len;have h2:=htr.cnt;rw[lL];omega
   have hnx:∀j,j<4->¬ Ym ip td1 (L.length+j):=fun j hj q=>by
    rcases hi.plo _ q with w|w
    ·have:=hltL _ w;omega
    ·omega
   obtain⟨L1,td2,hS,hp,hf,hx⟩:=Zq7 hi.pen (rx:=L.length+1) (Cv.two (n:=A.length) L.length (L.length+3)) hcl
   have hnx2:∀j,j<4->¬ Ym ip td2 (L.length+j):=fun j hj q=>by
    rcases hf.own _ q with w|w
    ·exact hnx j hj w
    ·omega
   rw[<- hf.old L.length (by omega) (hnx 0 (by omega))]at g0
   rw[<- hf.old _ (by omega) (hnx 1 (by omega))]at g1
   rw[<- hf.old _ (by omega) (hnx 2 (by omega))]at g2
   rw[<- hf.old _ (by omega) (hnx 3 (by omega))]at g3
   have hkl:∀k∈R.map Prod.fst,L.length+4<=k:=fun k hk=>by
    obtain⟨p,hp,rfl⟩:=List.mem_map.1 hk;exact hi.rlo p hp
   repeat'(first|refine ZE ?_|refine ZD ?_|refine ZF Y ?_|refine ZB Y ?_|refine ZC ?_|(refine cm0 Y Y Y ?_ ?_<;>intro _<;>try omega)|refine ZG Y ?_|refine ZAP Y Y ?_|refine ZA Y Y Y (hS) ?_|refine ZP ?_|refine Zo ?_|refine ZL ?_|refine Zc ?_|refine Zz ?_|refine Za Y ?_|refine Zk ?_)
   all_goals try omega
   refine⟨_,_,YG (.inr Y) Y Y Y Y,L1,td2,L.length+1,its++[⟨L.length+1,.inn (h+1) rs⟩],cs++[clV A.length Li.length (Li.length+2) (Li.length+1)],R++[(L.length+1,⟨0,h+1,QI (l.map Tr.mea)⟩)],
    (F++[(L.length,Blk.arr 7 0 [(Tr.mk 0 (h+1) .zero [] (some l)).av]),(L.length+3,Blk.arr 1 0 [.ref A.length (L.length+2) rs.length 0 rs.length]),(L.length+2,Blk.arr 1 rs.length (ZO4 A.length rs))]) ++
     [(Li.length,Blk.arr 1 0 [.ptr A.length ip 0 0 0]),(Li.length+1,Blk.arr 1 0 [.ptr A.length (L.length+1) 0 0 0]),(Li.length+2,Blk.arr 1 0 [.func (.func JO) [] [.ptr A.length L.length 0 0 0,.ptr A.length (L.length+3) 0 0 0]])],rfl,rfl,
    ⟨by rw[<- List.append_assoc];exact hp,hi.frm.trans hf,?_,?_,?_,?_,?_,.inner htr hi.nd (fun q=>by have:=hkl _ q;omega),?_,(hi.fw.append (.cons (by decide) (.cons (by decide) (.cons (by decide) .nil)))).append (.cons (by decide) (.cons (by decide) (.cons (by decide) .nil)))⟩⟩
   ·refine Fx.append (Fx.append (hi.fx.frm hf) (fun p hp=>?_)) hx
    simp only[List.mem_cons,List.not_mem_nil,or_false]at hp
    rcases hp with rfl|rfl|rfl
    ·exact⟨g0,hnx2 0 (by omega)⟩
    ·exact⟨g3,hnx2 3 (by omega)⟩
    ·exact⟨g2,hnx2 2 (by omega)⟩
   ·exact Rx.append (hi.rts.frm hf) (Rx.one g1 (hnx2 1 (by omega)))
   ·intro p hp
    simp only[List.mem_append,List.mem_cons,List.not_mem_nil,or_false]at hp
    rcases hp with (q|rfl|rfl|rfl)|rfl|rfl|rfl
    ·have:=hi.flo p q;omega
    all_goals simp only
    all_goals omega
   ·intro p hp
    simp only[List.mem_append,List.mem_singleton]at hp
    rcases hp with q|rfl
    ·have:=hi.rlo p q;omega
    ·simp only;omega
   ·refine (hi.cl.mono (fun p hp=>by simp[hp])).append (.cons ⟨Li.length,Li.length+2,Li.length+1,.func (.func JO) [] [.ptr A.length L.length 0 0 0,.ptr A.length (L.length+3) 0 0 0],rfl,by simp,by simp,by simp,⟨L.length,L.length+3,L.length+2,Tr.mk 0 (h+1) .zero [] (some l),rfl,rfl,by simp,by simp,by simp⟩⟩ .nil)
   ·rw[List.map_append,List.nodup_append]
    refine⟨hi.nd,by simp,?_⟩
    intro x hx y hy e;simp only[jC,List.map_nil,List.mem_singleton]at hy
    have:=hkl x hx
    omega
 obtain⟨v,st',h1,L',td',rx,its,cs,R,F,rfl,rfl,h2⟩:=hmain;exact⟨L',td',rx,its,cs,R,F,h1,h2⟩
theorem Zsi{N:ZO}(hv:Val N t):t.bytes<=65536->∀ {L:List Blk} {ip:Nat} {a td:AV} {cls:LV},Pen A L ip a td cls->cls.length+t.cnt<1000000 ->
 ∃L' td' rx its cs R F,S Tb Qr [.ptr A.length ip 0 0 0,t.av] ⟨A,false,L⟩=some (.ptr A.length rx 0 0 0,⟨A,false,L'⟩)/\Added A L ip a td cls t L' td' rx its cs R F:=by
 induction hv with
 | @kept o h m k x h0 hx hok hh hm hk=>intro _ L ip a td cls hP hc;exact Zni hP h0 hk
 | @leaf s k h1 h2 hk=>intro _ L ip a td cls hP hc;exact Znj hP (by omega) ⟨h1,h2⟩ hk
 | @inner h l hh h2 h4 hl hb hv ih =>
  intro hb2 L ip a td cls hP hc
  have hbs:∀u∈l,u.bytes<=65536:=fun u hu=>by
   obtain⟨i,hi,rfl⟩:=List.getElem_of_mem hu
   have h3:Tr.bytesL l=Tr.bytesL (l.take i)+(l[i].bytes+Tr.bytesL (l.drop (i+1))):=by
    conv=>lhs;rw[<- List.take_append_drop (i+1) l,ZW (jE hi),Tr.bytesL_append,Tr.bytesL_append]
    simp[Tr.bytesL];omega
   have n1:=Tr.bytesL_nonneg (l:=l.take i) (fun t ht=>by have:=(hv t (List.mem_of_mem_take ht)).pos.2;omega)
   have n2:=Tr.bytesL_nonneg (l:=l.drop (i+1)) (fun t ht=>by have:=(hv t (List.mem_of_mem_drop ht)).pos.2;omega)
   rw[Tr.bytes,Tr.bytesO]at hb2
   simp[Mea.zero]at hb2
   omega
  exact Zrg (fun u hu=>ih u hu (hbs u hu)) ⟨by omega,h4⟩ (fun u hu=>(hv u hu).mea_fit (hbs u hu)) (by omega) hP hc
theorem ZqU{xb:Nat}{s:B8}(h:st.get n xb=some (.arr 3 0 [.agg [.int .i64 0,.str s,.nils]])):S Tb Jy [.ptr n xb 0 0 0] st=some (Nd.av ⟨0,s,none⟩,st):=by
 refine QK Y (fun A hA=>?_)
 have g:=fun L=>ZQ hA (ro:=false) (L:=L) h
 repeat'(first|refine ZE ?_|refine ZD ?_|refine ZB Y ?_|refine ZC ?_|refine Zn Y Y Y ?_|refine Zy Y Y Y Y Y Y ?_|refine Z5 Y (g _) Y Y ?_|refine ZP ?_|refine ZL ?_)
 refine Xz hA (by simp) Y Y Y Y Y ?_
 rfl
theorem ZaI(n b:Nat)(st:St):∀l:List Kid,mapSt (ZZ (n+2) b) st (l.map Kid.av)=some (l.map Kid.av,st)
 | []=>rfl
 | k::l=>by
  rw[jC,mapSt]
  show ((some (k.av,st)).bind fun r=>(mapSt (ZZ (n+2) b) r.2 (l.map Kid.av)).bind (XQ r.1))=_
  rw[oS,ZaI n b st l];rfl
theorem Znl{b lv q:Nat}{h:Int}{s:B8}(st:St)(hl:lv<b):ZZ QD b st (.agg [.int .i64 h,.str s,.ref lv ix ver q n])=some (.agg [.int .i64 h,.str s,.ref lv ix ver q n],st):=by
 show (mapSt (keepN (ZZ 5 b)) _ _).bind ZKA=_
 simp only[mapSt,keepN,ZAL,jB,if_false,ZZ,oS,if_pos hl,XQ,ZKA]
theorem Zrh{L:List Blk}{l:List Kid}{h:Int}{s:B8}(hg:L[ix]?=some (.arr 4 ver (l.map Kid.av)))(hn:n=l.length):
 ZZ QD A.length ⟨A,false,L⟩ (.agg [.int .i64 h,.str s,.ref A.length ix ver 0 n])=some (.agg [.int .i64 h,.str s,.lit (l.map Kid.av)],⟨A,false,L.set ix .dead⟩):=by
 subst hn
 have h1:=ZJp (n:=4) (A:=A) (s:=0) (m:=l.length) hg (by simp) (es':=l.map Kid.av) (by rw[List.drop_zero,List.take_of_length_le (by simp)];exact ZaI 2 0 _ l)
 show (mapSt (keepN (ZZ 5 A.length)) _ _).bind ZKA=_
 simp only[mapSt,keepN,ZAL,jB,if_false,ZZ,oS]at h1 ⊢;rw[h1];simp only[oS,XQ,ZKA]
def kgV(lv kx:Nat):Nat->AV
 | 0=>.nils
 | i+1=>.ref lv kx i 0 (i+1)
def kgB(ks:List Kid):Nat->List Blk
 | 0=>[]
 | i+1=>[.arr 4 i ((ks.take (i+1)).map Kid.av)]
def Ro.kid(r:Ro):Kid:=⟨r.at_,r.m⟩
theorem ZqV{tb kb kx:Nat}{rs:List Nat}{ρ:Nat->Ro}(h1:st.get n tb=some (.arr 7 0 [t.av]))(h2:st.get n kb=some (.arr 1 0 [.ref n kx rs.length 0 rs.length]))(h3:st.get n kx=some (.arr 1 rs.length (ZO4 n rs)))(h4:∀r∈rs,st.get n r=some (.arr 5 0 [(ρ r).av]))
 (hl:1<=rs.length/\rs.length<=4):S Tb JO [.ptr n tb 0 0 0,.ptr n kb 0 0 0] st=some (Nd.av ⟨t.h,[],some (rs.map fun r=>(ρ r).kid)⟩,st):=by
 refine QK Y (fun A hA=>?_)
 have g1:=fun L=>ZQ hA (ro:=false) (L:=L) h1
 have g2:=fun L=>ZQ hA (ro:=false) (L:=L) h2
 have g3:=fun L=>ZQ hA (ro:=false) (L:=L) h3
 obtain⟨ks,hks⟩:∃ks,ks=rs.map fun r=>(ρ r).kid:=⟨_,rfl⟩
 rw[<- hks]
 have hkl:ks.length=rs.length:=by rw[hks,List.length_map]
 have hwi:∀L,wIs 1 rs.length (St.get ⟨A,false,L⟩ n kx)=true:=fun L=>by rw[g3];simp[wIs]
 repeat'(first|refine ZE ?_|refine ZD ?_|refine ZF Y ?_|refine ZU Y Y ?_|refine ZB Y ?_|refine ZC ?_|refine Qf Y ?_|refine Zw Y Y Y ?_|refine Zn Y Y Y ?_|refine Zy Y Y Y Y Y Y ?_|refine Z5 Y (g1 _) Y (Xh _) ?_|refine Z5 Y (g2 _) Y Y ?_|refine ZJ ?_)
 refine Zt (α:=Nat) (fun i=>[(2,.ptr A.length 0 0 0 0),(3,.ptr A.length 1 0 0 0),(9,.ref n kx rs.length 0 rs.length),(10,.int .i64 rs.length),(11,.int .i64 i)])
  (fun i=>⟨A,false,[.arr 3 0 [.agg [.int .i64 0,.str [],.nils]],.arr 3 0 [.agg [.int .i64 t.h,.str [],kgV A.length 2 i]]]++kgB ks i⟩) (fun i=>i<=rs.length) (fun i=>rs.length-i) 0 rfl rfl (Nat.zero_le _) ?_
 intro i hi;replace hi:i<=rs.length:=hi
 rcases Nat.lt_or_ge i rs.length with hlt|hge
 ·obtain⟨r,hr⟩:∃r,rs[i]?=some r:=⟨rs[i]'hlt,by simp[hlt]⟩
  have g4:=fun L=>ZQ hA (ro:=false) (L:=L) (h4 r (jM hr))
  have hp:(ZO4 n rs)[0+((i:Nat):Int).toNat]?=some (.ptr n r 0 0 0):=by
   rw[show 0+((i:Nat):Int).toNat=i by omega,ZO4,jG,hr];rfl
  have hki:ks[i]?=some (ρ r).kid:=by rw[hks,jG,hr];rfl
  have htk:=ZW hki;unfold Ro.av at g4
  cases i with
  | zero =>
   simp only[kgV,kgB]
   repeat'(first|refine ZE ?_|refine ZD ?_|refine ZF Y ?_|refine ZU Y Y ?_|refine ZV Y Y Y Y ?_|refine ZB Y ?_|refine ZC ?_|refine Z2 Y Y ?_|(refine cm0 Y Y Y ?_ ?_<;>intro _<;>try omega)|refine ZS Y ?_|refine Zj Y Y (by omega) ?_|refine Zw Y Y Y ?_|refine Zy Y Y Y (Jc _ (Nat.lt_succ_self _)) Y Y ?_|refine YP Y Y (by omega) (hwi _) ?_|refine Z5 Y (g3 _) hp Y ?_|refine Z5 Y (g4 _) Y Y ?_|refine ZkL Y Y Y ?_|refine ZGV Y Y Y (by simp) (by decide) Y ?_|refine ZI ?_|refine ZJ ?_|refine Zz ?_|refine Z7 ?_)
   refine⟨0+1,⟨rfl,?_⟩,by omega,by omega⟩
   simp only[kgB,htk];rfl
  | succ i =>
   simp only[kgV,kgB]
   have hl2:∀x:AV,((ks.take (i+1)).map Kid.av).length+[x].length<4294967296:=fun x=>by simp;omega
   have hn2:i+1=((ks.take (i+1)).map Kid.av).length:=by simp;omega
   repeat'(first|refine ZBT Y Y Y hn2 Y Y (hl2 _) (by decide) ?_|refine ZE ?_|refine ZD ?_|refine ZF Y ?_|refine ZU Y Y ?_|refine ZV Y Y Y Y ?_|refine ZB Y ?_|refine ZC ?_|refine Z2 Y Y ?_|(refine cm0 Y Y Y ?_ ?_<;>intro _<;>try omega)|refine ZS Y ?_|refine Zj Y Y (by omega) ?_|refine Zw Y Y Y ?_|refine Zy Y Y Y (Jc _ (Nat.lt_succ_self _)) Y Y ?_|refine YP Y Y (by omega) (hwi _) ?_|refine Z5 Y (g3 _) hp Y ?_|refine Z5 Y (g4 _) Y Y ?_|refine ZkL Y Y Y ?_|refine ZI ?_|refine ZJ ?_|refine Zz ?_|refine Z7 ?_)
   refine⟨i+1+1,⟨rfl,?_⟩,by omega,by omega⟩
   simp only[kgB,htk,List.map_append];rfl
 ·obtain rfl:i=rs.length:=by omega
  obtain⟨m,hm⟩:∃m,rs.length=m+1:=⟨rs.length-1,by omega⟩
  have htk:ks.take (m+1)=ks:=List.take_of_length_le (by omega)
  rw[hm];simp only[kgV,kgB,htk]
  repeat'(first|refine ZE ?_|refine ZD ?_|refine ZV Y Y Y Y ?_|refine ZB Y ?_|refine ZC ?_|(refine cm0 Y Y Y ?_ ?_<;>intro _<;>try omega)|refine ZG Y ?_|refine Zy Y Y Y (Znl _ (Nat.lt_succ_self _)) Y Y ?_|refine ZP ?_|refine Zo ?_|refine ZL ?_|refine Zc ?_|refine Za Y ?_|refine Zk ?_)
  all_goals try omega
  refine Xz hA (.inr Y) Y Y Y (Zrh (l:=ks) Y (by omega)) Y ?_
  rfl
def Q4(ρ:Nat->Ro):ItC->Nd
 | .leaf s=>⟨0,s,none⟩
 | .inn h ks=>⟨h,[],some (ks.map fun k=>(ρ k).kid)⟩
def ZjN:ItC->List Nat
 | .leaf _=>[]
 | .inn _ ks=>ks
theorem ZqW(x:Nd):weak x.av=x.av:=by
 obtain⟨h,s,k⟩:=x
 cases k<;>rfl
theorem wkPN(h:weak a=a)(x:Nd):ZY (Zg ([]++[a,x.av]++[]))=some [a,x.av]:=by
 simp only[lE,lN,lC,Zg,ZqW,ZY,h]
theorem Zlb{ρ:Nat->Ro}{c:ItC}(h:NdOk (Q4 ρ c)):((Q4 ρ c).h=0->(Q4 ρ c).kids=none)/\∀hh ks,c=.inn hh ks->1<=ks.length/\ks.length<=4:=by
 cases c with
 | leaf s=>exact⟨fun _=>rfl,fun hh ks q=>by simp at q⟩
 | inn hh ks =>
  rcases h with q|⟨n,l,q⟩
  ·have:=q.lo;simp[Q4]at this
  ·have e:=q.eq
   have h1:=q.lo;have h2:=q.hi;simp only[Q4,Nd.mk.injEq,oJ]at e;obtain⟨e1,_,e3⟩:=e
   refine⟨fun w=>by simp[Q4]at w;omega,fun hh' ks' q2=>?_⟩
   simp only[ItC.inn.injEq]at q2;obtain⟨rfl,rfl⟩:=q2;rw[<- e3,List.length_map]at h1 h2;omega
theorem Zlc{F:List (Nat × Blk)}{ρ:Nat->Ro}{c:ItC}(hcv:CvOk n F cv c)(hF:∀p∈F,st.get n p.1=some p.2)(hR:∀r∈ZjN c,st.get n r=some (.arr 5 0 [(ρ r).av]))(hl:∀h ks,c=.inn h ks->1<=ks.length/\ks.length<=4):
 S Tb (match cv with|.func (.func g) _ _=>g|_=>0) (match cv with|.func _ _ cap=>cap|_=>[]) st=some ((Q4 ρ c).av,st):=by
 cases c with
 | leaf s =>
  obtain⟨xb,rfl,h2⟩:=hcv;exact ZqU (hF _ h2)
 | inn h ks =>
  obtain⟨tb,kb,kx,t,rfl,h2,h3,h4,h5⟩:=hcv;subst h2;exact ZqV (hF _ h3) (hF _ h4) (hF _ h5) hR (hl _ _ Y)
theorem CvOk.form{F:List (Nat × Blk)}{c:ItC}(h:CvOk n F cv c):Cv n cv:=by
 cases c with
 | leaf s=>obtain⟨xb,rfl,_⟩:=h;exact .one _
 | inn h ks=>obtain⟨tb,kb,kx,t,rfl,_⟩:=h;exact .two _ _
def Ro.wr(r:Ro)(h:Nat):Ro:=⟨h,r.h,r.m⟩
theorem ZqX{b b0 b1 b2:Nat}{rp:AV}{r:AR}{F:List (Nat × Blk)}{ρ:Nat->Ro}(hb0:st.get n b0=some (.arr 1 0 [.ptr n ip 0 0 0]))(hb1:st.get n b1=some (.arr 1 0 [cv]))(hb2:st.get n b2=some (.arr 1 0 [.ptr n it.rx 0 0 0]))
 (hip:st.get n ip=some (.arr 3 0 [.agg [.ptr la (b+5) 0 0 0,td,rp]])) (hcv:CvOk n F cv it.c) (hF:∀p∈F,st.get n p.1=some p.2) (hR:∀k∈ZjN it.c,st.get n k=some (.arr 5 0 [(ρ k).av])) (hrx:st.get n it.rx=some (.arr 5 0 [(ρ it.rx).av]))
 (hA:Has st la b r) (ho:AROk r) (hn:0<r.n) (hx:NdOk (Q4 ρ it.c)) (hL:∀k∈(Q4 ρ it.c).ks,∃y,lk r.nodes k.at_=some y/\NdOk y/\y.h+1=(Q4 ρ it.c).h/\y.mea=k.m) (hw:st.wr n)
 (hs:∀i,i=it.rx\/i=b2->¬ (n=la/\b<=i/\i<=b+5)) :
 S Tb Xs [.ptr n b0 0 0 0,.ptr n b1 0 0 0,.ptr n b2 0 0 0] st=some (.tup [.int .u64 r.next,.int .i64 0],(Qh st la b (r.add (Q4 ρ it.c))).upd n it.rx (.arr 5 0 [((ρ it.rx).wr r.next).av])):=by
 obtain⟨hk0,hk4⟩:=Zlb hx
 refine ZB1 Y (fun A hA'=>?_)
 have g0:=fun L=>ZQ hA' (ro:=false) (L:=L) hb0
 have g1:=fun L=>ZQ hA' (ro:=false) (L:=L) hb1
 have g2:=fun L=>ZQ hA' (ro:=false) (L:=L) hb2
 have g3:=fun L=>ZQ hA' (ro:=false) (L:=L) hip
 have hC:=fun L=>Zlc (st:=St.allRo ⟨A,false,L⟩) (ρ:=ρ) hcv (fun p hp=>by rw[Jw];exact ZQ hA' (hF p hp)) (fun k hk=>by rw[Jw];exact ZQ hA' (hR k hk)) hk4
 have hAl:=fun L=>Zne (hA.push hA' (ro:=false) (L:=L)) ho hn hx hk0 hL
 have hle:=hA.le;have hP:=hA.put (r.add (Q4 ρ it.c));have hw1:(Qh st la b (r.add (Q4 ρ it.c))).wr n:=ZOr hA.cl.wr hw
 have hg2:(Qh st la b (r.add (Q4 ρ it.c))).get n b2=some (.arr 1 0 [.ptr n it.rx 0 0 0]):=by rw[hA.out _ (hs _ (.inr rfl))];exact hb2
 have hgr:(Qh st la b (r.add (Q4 ρ it.c))).get n it.rx=some (.arr 5 0 [(ρ it.rx).av]):=by rw[hA.out _ (hs _ (.inl rfl))];exact hrx
 cases hcv.form
 all_goals simp only at hC
 all_goals repeat'(first|refine ZA Y Y (wkPN Y _) (hAl _) ?_|refine ZE ?_|refine ZD ?_|refine ZF Y ?_|refine ZU Y Y ?_|refine Zr Y Y ?_|refine ZB Y ?_|refine ZC ?_|refine Z2 Y Y ?_|(refine cm0 Y Y Y ?_ ?_<;>intro _<;>try omega)|refine ZS Y ?_|refine Z5 Y (g0 _) Y Y ?_|refine Z5 Y (g1 _) Y Y ?_|refine Z5 Y (g3 _) Y Y ?_|refine XZ Y Y Y (hC _) ?_)
 all_goals rw[ZBG hA' hle]
 all_goals obtain⟨A1,hA1⟩:∃A1,A1=(Qh st la b (r.add (Q4 ρ it.c))).ps:=⟨_,rfl⟩
 all_goals rw[<- hA1]
 all_goals generalize Qh st la b (r.add (Q4 ρ it.c))=st1 at *
 all_goals have q2:=fun L=>ZQ hA1 (ro:=false) (L:=L) hg2
 all_goals repeat'(first|refine ZF Y ?_|refine ZU Y Y ?_|refine Z2 Y Y ?_|refine Z5 Y (q2 _) Y Y ?_)
 all_goals refine ZH9 hA1 Y Y hw1 hgr Y Y Y (fun A2 hA2=>?_)
 all_goals repeat'(first|refine ZE ?_|refine ZD ?_|refine ZF Y ?_|refine ZB Y ?_|refine ZC ?_|refine ZP ?_|refine ZL ?_)
 all_goals refine Zf hA2 (.inr Y) Y Y Y Y ?_
 all_goals rfl
theorem Zri{b b0 b1 b2 tx:Nat}{rp cv cl:AV}{r:AR}{F:List (Nat × Blk)}{ρ:Nat->Ro}(htd:st.get n tx=some (.arr 1 ver cls))(hj:cls[j]?=some cl)(hcl:ClOk n ip F cl it)(hlen:cls.length<1000000)
 (hip:st.get n ip=some (.arr 3 0 [.agg [.ptr la (b+5) 0 0 0,.ref n tx ver j (cls.length-j),rp]])) (hF:∀p∈F,st.get n p.1=some p.2) (hR:∀k∈ZjN it.c,st.get n k=some (.arr 5 0 [(ρ k).av])) (hrx:st.get n it.rx=some (.arr 5 0 [(ρ it.rx).av]))
 (hA:Has st la b r) (ho:AROk r) (hn:0<r.n) (hx:NdOk (Q4 ρ it.c)) (hL:∀k∈(Q4 ρ it.c).ks,∃y,lk r.nodes k.at_=some y/\NdOk y/\y.h+1=(Q4 ρ it.c).h/\y.mea=k.m) (hw:st.wr n)
 (hs:∀i,i=it.rx\/i=ip\/i=tx\/(∃p∈F,i=p.1)->¬ (n=la/\b<=i/\i<=b+5)) (hne:it.rx≠ip/\it.rx≠tx/\tx≠ip) :
 S Tb ZAH [.ptr n ip 0 0 0] st=some (.tup [.int .u64 r.next,.bool (decide (cls.length=j+1)),.int .i64 0],
  ((Qh st la b (r.add (Q4 ρ it.c))).upd n it.rx (.arr 5 0 [((ρ it.rx).wr r.next).av])).upd n ip (.arr 3 0 [.agg [.ptr la (b+5) 0 0 0,.ref n tx ver (j+1) (cls.length-j-1),rp]])):=by
 obtain⟨b0,b1,b2,cv,rfl,h0,h1,h2,hcv⟩:=hcl;have hjl:=(List.getElem?_eq_some_iff.1 hj).1
 refine ZB1 Y (fun A hA'=>?_)
 have g3:=fun L=>ZQ hA' (ro:=false) (L:=L) hip
 have gt:=fun L=>ZQ hA' (ro:=false) (L:=L) htd
 have hwi:∀L,wIs 1 ver (St.get ⟨A,false,L⟩ n tx)=true:=fun L=>by rw[gt];simp[wIs]
 have hle:=hA.le;have hnl:n<=st.A.length:=St.get_le hip;have hP:=hA.put (r.add (Q4 ρ it.c));have hw1:(Qh st la b (r.add (Q4 ρ it.c))).wr n:=ZOr hA.cl.wr hw;have hp1:=hs ip (.inr (.inl rfl));have hp2:=hs tx (.inr (.inr (.inl rfl)));have hp3:=hs it.rx (.inl rfl);have k1:(Qh st la b (r.add (Q4 ρ it.c))).get n it.rx=_:=(hA.out _ hp3).trans hrx;have k2:(Qh st la b (r.add (Q4 ρ it.c))).get n ip=_:=(hA.out _ hp1).trans hip;have k3:(Qh st la b (r.add (Q4 ρ it.c))).get n tx=_:=(hA.out _ hp2).trans htd
 have hput:=fun L=>ZqX (st:=⟨A,false,L⟩) (ρ:=ρ) (ZQ hA' (hF _ h0)) (ZQ hA' (hF _ h1)) (ZQ hA' (hF _ h2)) (g3 L) hcv (fun p hp=>ZQ hA' (hF p hp)) (fun k hk=>ZQ hA' (hR k hk)) (ZQ hA' hrx) (hA.push hA' (ro:=false) (L:=L)) ho hn hx hL (Xn hA' hnl hw)
  (fun i hi=>by
   rcases hi with rfl|rfl
   ·exact hp3
   ·exact hs _ (.inr (.inr (.inr ⟨_,h2,rfl⟩))))
 have e1:∀L,(Qh ⟨A,false,L⟩ la b (r.add (Q4 ρ it.c))).upd n it.rx (.arr 5 0 [((ρ it.rx).wr r.next).av])=⟨((Qh st la b (r.add (Q4 ρ it.c))).upd n it.rx (.arr 5 0 [((ρ it.rx).wr r.next).av])).ps,false,L⟩:=fun L=>by
  rw[ZBG hA' hle]
  exact Jl Y (by rw[ZGU];exact hnl)
 simp only[e1]at hput;clear e1
 have m1:∀l' i',((Qh st la b (r.add (Q4 ρ it.c))).upd n it.rx (.arr 5 0 [((ρ it.rx).wr r.next).av])).get l' i'=if l'=n/\i'=it.rx then some (.arr 5 0 [((ρ it.rx).wr r.next).av]) else (Qh st la b (r.add (Q4 ρ it.c))).get l' i':=fun l' i'=>St.get_upd k1 rfl
 have n2:=(m1 n ip).trans ((if_neg (fun q=>hne.1 q.2.symm)).trans k2)
 have n3:=(m1 n tx).trans ((if_neg (fun q=>hne.2.1 q.2.symm)).trans k3)
 have hw2:((Qh st la b (r.add (Q4 ρ it.c))).upd n it.rx (.arr 5 0 [((ρ it.rx).wr r.next).av])).wr n:=St.wr_upd hw1 hw1;clear m1 k1 k2 k3
 generalize (Qh st la b (r.add (Q4 ρ it.c))).upd n it.rx (.arr 5 0 [((ρ it.rx).wr r.next).av])=st1 at *
 have hj2:cls[j+((0:Nat):Int).toNat]?=some (clV n b0 b1 b2):=by simpa using hj
 unfold clV at hj2
 repeat'(first|refine ZE ?_|refine ZD ?_|refine ZF Y ?_|refine ZU Y Y ?_|refine ZB Y ?_|refine ZC ?_|refine Z2 Y Y ?_|refine Qf Y ?_|(refine cm0 Y Y Y ?_ ?_<;>intro _<;>try omega)|refine ZG Y ?_|refine JA Y Y Y Y ?_|refine Z5 Y (g3 _) Y Y ?_|refine YP Y Y (by omega) (hwi _) ?_|refine Z5 Y (gt _) hj2 Y ?_|refine ZI ?_)
 all_goals try omega
 refine ZA Y Y Y (hput _) ?_;obtain⟨A1,hA1⟩:∃A1,A1=st1.ps:=⟨_,rfl⟩;rw[<- hA1]
 have q2:=fun L=>ZQ hA1 (ro:=false) (L:=L) n2
 have q3:=fun L=>ZQ hA1 (ro:=false) (L:=L) n3
 have hwi1:∀L,wIs 1 ver (St.get ⟨A1,false,L⟩ n tx)=true:=fun L=>by rw[q3];simp[wIs]
 repeat'(first|refine ZE ?_|refine ZD ?_|refine ZF Y ?_|refine ZU Y Y ?_|refine Zr Y Y ?_|refine ZB Y ?_|refine ZC ?_|refine Z2 Y Y ?_|(refine cm0 Y Y Y ?_ ?_<;>intro _<;>try omega)|refine ZG Y ?_|refine Z5 Y (q2 _) Y Y ?_|refine ZLN Y Y (by omega) (hwi1 _) ?_|refine ZI ?_)
 all_goals try contradiction
 refine ZH9 hA1 Y Y hw2 n2 Y (Jc _ (Nat.lt_succ_self _)) Y (fun A2 hA2=>?_)
 have eB:Blk.arr 3 0 ([AV.agg [.ptr la (b+5) 0 0 0,.ref n tx ver j (cls.length-j),rp]].set 0 (.agg [.ptr la (b+5) 0 0 0,.ref n tx ver (j+(1:Int).toNat) (cls.length-j-(1:Int).toNat),rp]))=Blk.arr 3 0 [.agg [.ptr la (b+5) 0 0 0,.ref n tx ver (j+1) (cls.length-j-1),rp]]:=rfl;rw[eB]at hA2;have r2:(st1.upd n ip (Blk.arr 3 0 [.agg [.ptr la (b+5) 0 0 0,.ref n tx ver (j+1) (cls.length-j-1),rp]])).get n ip=_:=(St.get_upd n2 rfl).trans (if_pos ⟨rfl,rfl⟩)
 have p2:=fun L=>ZQ hA2 (ro:=false) (L:=L) r2
 repeat'(first|refine ZE ?_|refine ZD ?_|refine ZF Y ?_|refine ZU Y Y ?_|refine ZB Y ?_|refine ZC ?_|refine Z2 Y Y ?_|refine Qf Y ?_|(refine cm0 Y Y Y ?_ ?_<;>intro _<;>try omega)|refine Z5 Y (p2 _) Y Y ?_|refine ZP ?_|refine ZL ?_)
 ·rename_i hz
  rw[decide_eq_true (show cls.length=j+1 by omega)]
  exact Zf hA2 (.inr Y) Y Y Y Y Y
 ·rename_i hz
  rw[decide_eq_false (show ¬ cls.length=j+1 by omega)]
  exact Zf hA2 (.inr Y) Y Y Y Y Y
def Ext(N M:ZO):Prop:=∀o x,lk N o=some x->lk M o=some x
theorem Ext.refl(N:ZO):Ext N N:=fun _ _ h=>h
theorem Ext.trans{N M K:ZO}(h:Ext N M)(g:Ext M K):Ext N K:=fun o x q=>g o x (h o x q)
theorem ZJ1{N M:ZO}(hN:GoodN N)(hs:Ext N M):∀n o x,lk N o=some x->x.h=n->Qb M n o=Qb N n o:=by
 intro n
 induction n with
 | zero=>intro o x hx hh;rw[Qb,Qb,hx,hs _ _ hx]
 | succ n ih =>
  intro o x hx hh;rw[Qb,Qb,hx,hs _ _ hx];simp only[Option.map_some,Option.getD_some];have hk:=(hN o x hx).2
  have key:∀l:List Kid,(∀k∈l,k∈x.ks)->(l.flatMap fun k=>Qb M n k.at_)=l.flatMap fun k=>Qb N n k.at_:=by
   intro l
   induction l with
   | nil=>intro _;rfl
   | cons k l ih2 =>
    intro h
    obtain⟨_,y,y1,y2,_⟩:=hk k (h k (by simp))
    rw[List.flatMap_cons,List.flatMap_cons,ih k.at_ y y1 (by omega),ih2 (fun q hq=>h q (by simp[hq]))]
  exact key _ fun _ h=>h
theorem ZV6{r:AR}(ho:AROk r)(hn:0<r.n)(x:Nd):Ext r.nodes (r.add x).nodes:=fun o y h=>by
 rw[ZJa ho hn,if_neg]
 ·exact h
 ·intro q;rw[q,ho.new hn]at h;simp at h
def ZSE(N:ZO)(x:Nd):Prop:=∀k∈x.ks,∃y,lk N k.at_=some y/\NdOk y/\y.h+1=x.h/\y.mea=k.m
theorem Znm{r:AR}(ho:AROk r)(hn:0<r.n)(hg:GoodN r.nodes)(hx:NdOk x)(hk:ZSE r.nodes x)(h0:∀k∈x.ks,k.at_≠0):GoodN (r.add x).nodes:=by
 intro o y h;have hE:=ZV6 ho hn x;rw[ZJa ho hn]at h
 split at h
 ·simp only[oJ]at h
  subst h
  refine⟨hx.copy,fun k hkk=>?_⟩
  have hkk':k∈x.ks:=hkk;obtain⟨z,z1,z2,z3,z4⟩:=hk k hkk';exact⟨h0 k hkk',z,hE _ _ z1,z3,z4⟩
 ·obtain⟨h1,h2⟩:=hg o y h
  refine⟨h1,fun k hkk=>?_⟩
  obtain⟨g0,z,z1,z2,z3⟩:=h2 k hkk;exact⟨g0,z,hE _ _ z1,z2,z3⟩
theorem AROk.hnd{r:AR}(h:AROk r){o:Nat}(hx:lk r.nodes o=some x):Yc o/\o≠0:=by
 obtain⟨s,g,h1,h2,h3,h4⟩:=h.key o x hx;obtain⟨g',g1,g2,g3⟩:=h.gen s h2;rw[h4]at g1;simp only[oJ]at g1
 have:=h.n16
 have:=h.most
 unfold Yc;omega
def ZO7(ρ:Nat->Ro)(k h:Nat):Nat->Ro:=fun i=>if i=k then (ρ i).wr h else ρ i
inductive RunOk:List It->AR->(Nat->Ro)->AR->(Nat->Ro)->List Nat->Prop
 | nil {r ρ}:RunOk [] r ρ r ρ []
 | cons {it its r ρ r' ρ' hs} (hn:0<r.n) (hx:NdOk (Q4 ρ it.c)) (hk:ZSE r.nodes (Q4 ρ it.c)) (h:RunOk its (r.add (Q4 ρ it.c)) (ZO7 ρ it.rx r.next) r' ρ' hs):RunOk (it::its) r ρ r' ρ' (r.next::hs)
theorem RunOk.append{i1 i2:List It}{r r1 r2:AR}{ρ ρ1 ρ2:Nat->Ro}{h1 h2:List Nat}(h:RunOk i1 r ρ r1 ρ1 h1)(g:RunOk i2 r1 ρ1 r2 ρ2 h2):RunOk (i1++i2) r ρ r2 ρ2 (h1++h2):=by
 induction h with
 | nil=>exact g
 | cons hn hx hk h ih=>exact .cons hn hx hk (ih g)
namespace Tr
mutual
def wr:Tr->AR->AR × Ro × List Nat
 | .mk o h m s k,r =>
  if o≠0 then (r,⟨o,h,m⟩,[])
  else if h=0 then (r.add ⟨0,s,none⟩,⟨r.next,0,Yw s⟩,[r.next])
  else ((wrO k r).1.add ⟨h,[],some (wrO k r).2.1⟩,⟨(wrO k r).1.next,h,QI ((wrO k r).2.1.map Kid.m)⟩,(wrO k r).2.2++[(wrO k r).1.next])
def wrO:Option (List Tr)->AR->AR × List Kid × List Nat
 | none,r=>(r,[],[])
 | some l,r=>wrL l r
def wrL:List Tr->AR->AR × List Kid × List Nat
 | [],r=>(r,[],[])
 | t::l,r=>((wrL l (t.wr r).1).1,(t.wr r).2.1.kid::(wrL l (t.wr r).1).2.1,(t.wr r).2.2++(wrL l (t.wr r).1).2.2)
end
end Tr
structure WrB(r:AR)(c:Nat)(r':AR)(hs:List Nat):Prop where
 ok:AROk r'
 good:GoodN r'.nodes
 ext:Ext r.nodes r'.nodes
 n:r'.n+c=r.n
 len:hs.length=c
 new:∀h∈hs,lk r.nodes h=none
 all:∀h x,lk r'.nodes h=some x->lk r.nodes h=some x\/h∈hs
 has:∀h∈hs,∃x,lk r'.nodes h=some x
 nodup:hs.Nodup
 frees:r'.frees=r.frees
 stale:r'.stale=r.stale
 slots:r'.slots=r.slots
 allocs:r'.allocs=r.allocs+c
 nl:r'.nodes.length=r.nodes.length+c
theorem WrB.refl{r:AR}(ho:AROk r)(hg:GoodN r.nodes):WrB r 0 r [] :=
 ⟨ho,hg,.refl _,by simp,rfl,fun h q=>by simp at q,fun h x q=>.inl q,fun h q=>by simp at q,by simp,rfl,rfl,rfl,by simp,by simp⟩
theorem WrB.trans{r r1 r2:AR}{c d:Nat}{h1 h2:List Nat}(h:WrB r c r1 h1)(g:WrB r1 d r2 h2):WrB r (c+d) r2 (h1++h2):=by
 refine⟨g.ok,g.good,h.ext.trans g.ext,by have:=h.n;have:=g.n;omega,by rw[lL,h.len,g.len],fun o ho=>?_,fun o x ho=>?_,fun o ho=>?_,?_,g.frees.trans h.frees,g.stale.trans h.stale,g.slots.trans h.slots,by rw[g.allocs,h.allocs];omega,by rw[g.nl,h.nl];omega⟩
 ·rcases List.mem_append.1 ho with q|q
  ·exact h.new o q
  ·cases hk:lk r.nodes o with
   | none=>rfl
   | some x=>have:=g.new o q;rw[h.ext _ _ hk]at this;simp at this
 ·rcases g.all o x ho with q|q
  ·rcases h.all o x q with w|w
   ·exact .inl w
   ·exact .inr (by simp[w])
  ·exact .inr (by simp[q])
 ·rcases List.mem_append.1 ho with q|q
  ·obtain⟨x,hx⟩:=h.has o q
   exact⟨x,g.ext _ _ hx⟩
  ·exact g.has o q
 ·rw[List.nodup_append]
  refine⟨h.nodup,g.nodup,fun x hx y hy e=>?_⟩
  subst e;obtain⟨z,hz⟩:=h.has x hx;rw[g.new x hy]at hz
  simp at hz
theorem WrB.one{r:AR}(ho:AROk r)(hn:0<r.n)(hg:GoodN r.nodes){x:Nd}(hx:NdOk x)(hk:ZSE r.nodes x)(h0:∀k∈x.ks,k.at_≠0):WrB r 1 (r.add x) [r.next]:=by
 refine⟨ho.add hn x,Znm ho hn hg hx hk h0,ZV6 ho hn x,?_,rfl,fun o q=>?_,fun o y q=>?_,fun o q=>?_,by simp,rfl,rfl,rfl,rfl,by simp[AR.add,AR.alloc]⟩
 ·show r.n-1+1=r.n;omega
 ·simp only[List.mem_singleton]at q;subst q;exact ho.new hn
 ·rw[ZJa ho hn]at q
  split at q
  ·rename_i e;exact .inr (by simp[e])
  ·exact .inl q
 ·simp only[List.mem_singleton]at q
  exact⟨x.copy,by rw[ZJa ho hn,if_pos q]⟩
structure WrOk(N:ZO)(t:Tr)(r':AR)(ro:Ro):Prop where
 rm:ro.m=t.mea
 rh:ro.h=t.h
 live:∃y,lk r'.nodes ro.at_=some y/\NdOk y/\y.h=t.h/\y.mea=t.mea
 txt:Qb r'.nodes t.h ro.at_=t.txt N
def Exec(N:ZO)(t:Tr):Prop:=∀(r:AR),AROk r->GoodN r.nodes->Ext N r.nodes->t.cnt<=r.n->∀(rx:Nat) (its:List It) (R:List (Nat × Ro)) (ρ:Nat->Ro),AddT t rx its R->(∀p∈R,ρ p.1=p.2)->(R.map Prod.fst).Nodup ->
 ∃ρ',RunOk its r ρ (t.wr r).1 ρ' (t.wr r).2.2/\ρ' rx=(t.wr r).2.1/\(∀k,k∉R.map Prod.fst->ρ' k=ρ k)/\WrB r t.cnt (t.wr r).1 (t.wr r).2.2/\WrOk N t (t.wr r).1 (t.wr r).2.1
structure WrLs(N:ZO)(l:List Tr)(h:Nat)(r':AR)(ks:List Kid):Prop where
 len:ks.length=l.length
 m:ks.map Kid.m=l.map Tr.mea
 ok:∀k∈ks,KidOk h k/\k.at_≠0/\∃y,lk r'.nodes k.at_=some y/\NdOk y/\y.h=h/\y.mea=k.m
 txt:(ks.flatMap fun k=>Qb r'.nodes h k.at_)=Tr.txtL N l
theorem Zsj{N:ZO}(hN:GoodN N){h:Nat}:∀(l:List Tr),(∀u∈l,Val N u/\u.h=h/\Big u)->(∀u∈l,Exec N u)->∀(r:AR),AROk r->GoodN r.nodes->Ext N r.nodes->Tr.cntL l<=r.n->∀(rs:List Nat) (its:List It) (R:List (Nat × Ro)) (ρ:Nat->Ro),AddL l rs its R->(∀p∈R,ρ p.1=p.2)->(R.map Prod.fst).Nodup ->
 ∃ρ',RunOk its r ρ (Tr.wrL l r).1 ρ' (Tr.wrL l r).2.2/\(rs.map fun k=>(ρ' k).kid)=(Tr.wrL l r).2.1/\(∀k,k∉R.map Prod.fst->ρ' k=ρ k)/\WrB r (Tr.cntL l) (Tr.wrL l r).1 (Tr.wrL l r).2.2/\WrLs N l h (Tr.wrL l r).1 (Tr.wrL l r).2.1:=by
 intro l
 induction l with
 | nil =>
  intro _ _ r ho hg hE hc rs its R ρ ha hR hnd
  cases ha
  exact⟨ρ,.nil,rfl,fun _ _=>rfl,.refl ho hg,⟨rfl,rfl,fun k hk=>by simp[Tr.wrL]at hk,rfl⟩⟩
 | cons t l ih =>
  intro hv hx r ho hg hE hc rs its R ρ ha hR hnd
  cases ha with
  | @cons _ _ rx rs i1 i2 R1 R2 ht hl =>
   rw[Tr.cntL]at hc;rw[List.map_append,List.nodup_append]at hnd;obtain⟨nd1,nd2,nd3⟩:=hnd
   obtain⟨ρ1,a1,a2,a3,a4,a5⟩:=hx t (by simp) r ho hg hE (by omega) rx i1 R1 ρ ht (fun p hp=>hR p (by simp[hp])) nd1
   have hn1:=a4.n
   have hd:∀p∈R2,p.1∉R1.map Prod.fst:=fun p hp q=>nd3 _ q _ (List.mem_map.2 ⟨p,hp,rfl⟩) rfl
   obtain⟨ρ2,b1,b2,b3,b4,b5⟩:=ih (fun u hu=>hv u (by simp[hu])) (fun u hu=>hx u (by simp[hu])) _ a4.ok a4.good (hE.trans a4.ext) (by omega) rs i2 R2 ρ1 hl (fun p hp=>by rw[a3 _ (hd p hp)];exact hR p (by simp[hp])) nd2
   obtain⟨rr,hrr,_,_⟩:=ht.root
   have hrx:rx∉R2.map Prod.fst:=fun q=>nd3 rx (List.mem_map.2 ⟨_,hrr,rfl⟩) rx q rfl
   obtain⟨v1,v2,v3⟩:=hv t (by simp)
   refine⟨ρ2,a1.append b1,?_,?_,?_,?_⟩
   ·rw[jC,b3 rx hrx,a2,b2];rfl
   ·intro k hk
    rw[List.map_append,List.mem_append,not_or]at hk;rw[b3 k hk.2,a3 k hk.1]
   ·rw[Tr.cntL];exact a4.trans b4
   ·obtain⟨y,y1,y2,y3,y4⟩:=a5.live
    have hh:=a4.ok.hnd y1;have hkm:((t.wr r).2.1.kid).m=t.mea:=a5.rm;have hka:((t.wr r).2.1.kid).at_=(t.wr r).2.1.at_:=rfl
    refine⟨by show _+1=_;rw[b5.len];rfl,?_,?_,?_⟩
    ·show ((t.wr r).2.1.kid).m::_=_
     rw[hkm,b5.m];rfl
    ·intro k hk
     rcases List.mem_cons.1 hk with rfl|q
     ·refine⟨?_,hh.2,y,b4.ext _ _ y1,y2,by rw[y3,v2],by rw[y4];exact hkm.symm⟩
      have hs:=v1.size hN v3;have hb:=v1.mea_ok.1
      have:=y2.kid (a:=(t.wr r).2.1.at_) (by rw[y3,y4,hb];exact hs) hh.1
      rw[y3,v2,y4,<- a5.rm]at this;exact this
     ·exact b5.ok k q
    ·show Qb (Tr.wrL l (t.wr r).1).1.nodes h (t.wr r).2.1.at_++((Tr.wrL l (t.wr r).1).2.1.flatMap fun k=>Qb (Tr.wrL l (t.wr r).1).1.nodes h k.at_)=_
     rw[b5.txt,Tr.txtL,<- a5.txt,v2]
     congr 1
     exact ZJ1 a4.good b4.ext h _ y y1 (by rw[y3,v2])
theorem exec_ok{N:ZO}(hN:GoodN N)(hv:Val N t):t.bytes<=65536->Exec N t:=by
 induction hv with
 | @kept o h m k x h0 hx hok hh hm hk =>
  intro _ r ho hg hE hc rx its R ρ ha hR hnd
  have e:(Tr.mk o h m [] k).wr r=(r,⟨o,h,m⟩,[]):=by rw[Tr.wr,if_pos h0]
  have ec:(Tr.mk o h m [] k).cnt=0:=by rw[Tr.cnt,Tr.cntO_getD,hk,if_neg h0];rfl
  rw[e,ec]
  cases ha with
  | kept _ =>
   refine⟨ρ,.nil,hR (rx,⟨o,h,m⟩) (by simp),fun _ _=>rfl,.refl ho hg,⟨(ZO6 h0).symm,rfl,⟨x,hE _ _ hx,hok,hh,by rw[ZO6 h0];exact hm⟩,?_⟩⟩
   show Qb r.nodes h o=_
   rw[ZJ1 hN hE h o x hx hh,Tr.txt,if_neg h0,Tr.txtO_getD,hk]
   simp[Tr.txtL]
  | leaf=>exact absurd Y h0
  | inner=>exact absurd Y h0
 | @leaf s k h1 h2 hk =>
  intro _ r ho hg hE hc rx its R ρ ha hR hnd
  have e:(Tr.mk 0 0 .zero s k).wr r=(r.add ⟨0,s,none⟩,⟨r.next,0,Yw s⟩,[r.next]):=by rw[Tr.wr];simp
  have ec:(Tr.mk 0 0 .zero s k).cnt=1:=by rw[Tr.cnt,Tr.cntO_getD,hk];rfl
  rw[ec]at hc;rw[e,ec];have hx:NdOk ⟨0,s,none⟩:=.inl ⟨rfl,h1,h2,rfl⟩
  cases ha with
  | kept h0=>exact absurd Y h0
  | leaf =>
   have hρ:ρ rx=⟨0,0,Yw s⟩:=hR (rx,⟨0,0,Yw s⟩) (by simp)
   refine⟨ZO7 ρ rx r.next,.cons (by omega) hx (fun k hk=>by simp[Q4,Nd.ks]at hk) .nil,?_,fun k hk=>?_,.one ho (by omega) hg hx (fun k hk=>by simp[Nd.ks]at hk) (fun k hk=>by simp[Nd.ks]at hk),⟨(ZO5 s k).symm,rfl,⟨(⟨0,s,none⟩:Nd).copy,?_,hx.copy,rfl,?_⟩,?_⟩⟩
   ·simp only[ZO7,if_true,hρ];rfl
   ·simp only[jC,List.map_nil,List.mem_singleton]at hk
    simp only[ZO7,if_neg hk]
   ·rw[ZJa ho (by omega),if_pos rfl]
   ·rw[ZO5];rfl
   ·show Qb _ 0 r.next=_
    rw[Qb,ZJa ho (by omega),if_pos rfl,Tr.txt,if_pos rfl,Tr.txtO_getD,hk]
    simp[Tr.txtL,Nd.copy]
 | @inner h l hh h2 h4 hl hb hv ih =>
  intro hb2 r ho hg hE hc rx its R ρ ha hR hnd
  have eb:(Tr.mk 0 (h+1) .zero [] (some l)).bytes=Tr.bytesL l:=by rw[Tr.bytes,Tr.bytesO];simp[Mea.zero]
  have hbs:∀u∈l,u.bytes<=65536:=fun u hu=>by
   obtain⟨i,hi,rfl⟩:=List.getElem_of_mem hu
   have h3:Tr.bytesL l=Tr.bytesL (l.take i)+(l[i].bytes+Tr.bytesL (l.drop (i+1))):=by
    conv=>lhs;rw[<- List.take_append_drop (i+1) l,ZW (jE hi),Tr.bytesL_append,Tr.bytesL_append]
    simp[Tr.bytesL];omega
   have n1:=Tr.bytesL_nonneg (l:=l.take i) (fun t ht=>by have:=(hv t (List.mem_of_mem_take ht)).pos.2;omega)
   have n2:=Tr.bytesL_nonneg (l:=l.drop (i+1)) (fun t ht=>by have:=(hv t (List.mem_of_mem_drop ht)).pos.2;omega)
   omega
  have ec:(Tr.mk 0 (h+1) .zero [] (some l)).cnt=Tr.cntL l+1:=by rw[Tr.cnt,Tr.cntO];simp;omega
  rw[ec]at hc
  have hbl:(QI (l.map Tr.mea)).b=Tr.bytesL l:=ZjM l fun u hu=>(hv u hu).mea_ok.1
  have e:(Tr.mk 0 (h+1) .zero [] (some l)).wr r=((Tr.wrL l r).1.add ⟨h+1,[],some (Tr.wrL l r).2.1⟩,⟨(Tr.wrL l r).1.next,h+1,QI ((Tr.wrL l r).2.1.map Kid.m)⟩,(Tr.wrL l r).2.2++[(Tr.wrL l r).1.next]):=by
   rw[Tr.wr];simp[Tr.wrO]
  rw[e,ec]
  cases ha with
  | kept h0=>exact absurd Y h0
  | @inner _ _ _ rs i1 R1 hal hn1 hx1 =>
   obtain⟨ρ1,a1,a2,a3,a4,a5⟩:=Zsj hN l (fun u hu=>⟨hv u hu,hl u hu,fun q=>hb u hu (by rw[<- hl u hu];exact q)⟩) (fun u hu=>ih u hu (hbs u hu)) r ho hg hE (by omega) rs i1 R1 ρ hal (fun p hp=>hR p (by simp[hp])) hn1
   have hρ:ρ1 rx=⟨0,h+1,QI (l.map Tr.mea)⟩:=by rw[a3 rx hx1];exact hR (rx,⟨0,h+1,QI (l.map Tr.mea)⟩) (by simp)
   have hn:0<(Tr.wrL l r).1.n:=by have:=a4.n;omega
   generalize hks:(Tr.wrL l r).2.1=ks at *
   generalize (Tr.wrL l r).1=r1 at *
   have hx:NdOk ⟨h+1,[],some ks⟩:=.inr ⟨h,ks,rfl,by omega,by have:=a5.len;omega,by have:=a5.len;omega,fun k hk=>(a5.ok k hk).1,by rw[a5.m,hbl];omega⟩
   have hki:ZSE r1.nodes ⟨h+1,[],some ks⟩:=fun k hk=>by
    obtain⟨_,_,y,y1,y2,y3,y4⟩:=a5.ok k hk
    exact⟨y,y1,y2,by show y.h+1=h+1;omega,y4⟩
   have hnd2:Q4 ρ1 (.inn (h+1) rs)=⟨h+1,[],some ks⟩:=by rw[Q4,a2]
   have hrun:RunOk [⟨rx,.inn (h+1) rs⟩] r1 ρ1 (r1.add ⟨h+1,[],some ks⟩) (ZO7 ρ1 rx r1.next) [r1.next]:=by
    have:=RunOk.cons (it:=⟨rx,.inn (h+1) rs⟩) (ρ:=ρ1) hn (by rw[hnd2];exact hx) (by rw[hnd2];exact hki) .nil
    rw[hnd2]at this;exact this
   refine⟨ZO7 ρ1 rx r1.next,a1.append hrun,?_,fun k hk=>?_,a4.trans (.one a4.ok hn a4.good hx hki (fun k hk=>(a5.ok k hk).2.1)),⟨?_,rfl,⟨(⟨h+1,[],some ks⟩:Nd).copy,?_,hx.copy,rfl,?_⟩,?_⟩⟩
   ·simp only[ZO7,if_true,hρ,Ro.wr,a5.m]
   ·rw[List.map_append,List.mem_append,not_or]at hk
    have:k≠rx:=fun q=>hk.2 (by simp[q])
    simp only[ZO7,if_neg this];exact a3 k hk.1
   ·rw[Zf4]
    show QI (ks.map Kid.m)=_
    rw[a5.m]
   ·rw[ZJa a4.ok hn,if_pos rfl]
   ·rw[Zf4,<- a5.m];rfl
   ·show Qb _ (h+1) r1.next=_
    rw[Qb,ZJa a4.ok hn,if_pos rfl,Tr.txt,if_pos rfl,Tr.txtO,<- a5.txt]
    show (ks.flatMap fun k=>Qb (r1.add _).nodes h k.at_)=_
    have key:∀m:List Kid,(∀k∈m,k∈ks)->(m.flatMap fun k=>Qb (r1.add ⟨h+1,[],some ks⟩).nodes h k.at_)=m.flatMap fun k=>Qb r1.nodes h k.at_:=by
     intro m
     induction m with
     | nil=>intro _;rfl
     | cons k m ih2 =>
      intro q
      obtain⟨_,_,y,y1,y2,y3,y4⟩:=a5.ok k (q k (by simp))
      rw[List.flatMap_cons,List.flatMap_cons,ZJ1 a4.good (ZV6 a4.ok hn _) h k.at_ y y1 y3,ih2 (fun w hw=>q w (by simp[hw]))]
    exact key ks fun _ h=>h
theorem ClsOk.get{F:List (Nat × Blk)}{cs:LV}{is:List It}(h:ClsOk n ip F cs is):∀ {j:Nat} {it:It},is[j]?=some it->∃c,cs[j]?=some c/\ClOk n ip F c it:=by
 induction h with
 | nil=>intro j it hj;simp at hj
 | cons hc ht ih =>
  intro j it hj
  cases j with
  | zero =>
   simp only[List.getElem?_cons_zero,oJ]at hj;subst hj;exact⟨_,rfl,hc⟩
  | succ j=>exact ih hj
def TdOk(st:St)(n tx ver j:Nat)(cls:LV)(td:AV):Prop:=(cls=[]/\td=.nils)\/(cls≠[]/\td=.ref n tx ver j (cls.length-j)/\st.get n tx=some (.arr 1 ver cls))
structure PenS(st:St)(n ip tx ver la b:Nat)(cls:LV)(its:List It)(F:List (Nat × Blk))(keys:List Nat)(rx:Nat)(ρ:Nat->Ro)(j:Nat):Prop where
 wr:st.wr n
 pen:∃td,st.get n ip=some (.arr 3 0 [.agg [.ptr la (b+5) 0 0 0,td,.ptr n rx 0 0 0]])/\TdOk st n tx ver j cls td
 cl:ClsOk n ip F cls its
 fx:∀p∈F,st.get n p.1=some p.2
 rts:∀k∈keys,st.get n k=some (.arr 5 0 [(ρ k).av])
 key:∀it∈its,it.rx∈keys/\∀k∈ZjN it.c,k∈keys
 rk:rx∈keys
 s1:∀k∈keys,k≠ip/\k≠tx
 s2:tx≠ip
 s3:∀p∈F,p.1∉keys/\p.1≠ip/\p.1≠tx
 ar:∀i,i=ip\/(cls≠[]/\i=tx)\/i∈keys\/(∃p∈F,i=p.1)->¬ (n=la/\b<=i/\i<=b+5)
 len:cls.length<1000000
 jl:j<=cls.length
theorem Zrj{tx b:Nat}{its:List It}{F:List (Nat × Blk)}{keys:List Nat}{rx:Nat}{ρ:Nat->Ro}(h:PenS st n ip tx ver la b cls its F keys rx ρ j)(hj:j=cls.length):S Tb ZBs [.ptr n ip 0 0 0] st=some (.tup [(ρ rx).av,.int .i64 0],st):=by
 obtain⟨td,h1,h2⟩:=h.pen;have h3:=h.rts rx h.rk
 refine QK Y (fun A hA=>?_)
 have g1:=fun L=>ZQ hA (ro:=false) (L:=L) h1
 have g3:=fun L=>ZQ hA (ro:=false) (L:=L) h3
 unfold Ro.av at g3 ⊢
 rcases h2 with⟨_,rfl⟩|⟨_,rfl,_⟩
 all_goals repeat'(first|refine ZE ?_|refine ZD ?_|refine ZF Y ?_|refine ZU Y Y ?_|refine ZB Y ?_|refine ZC ?_|refine Z2 Y Y ?_|refine Qf Y ?_|refine YF Y ?_|(refine cm0 Y Y Y ?_ ?_<;>intro _<;>try omega)|refine ZG Y ?_|refine JA Y Y Y Y ?_|refine Zn Y Y Y ?_|refine Zy Y Y Y Y Y Y ?_|refine Z5 Y (g1 _) Y Y ?_|refine Z5 Y (g3 _) Y Y ?_|refine ZI ?_|refine ZP ?_|refine ZL ?_)
 all_goals try omega
 all_goals refine Xz hA (by simp) Y Y Y Y Y ?_
 all_goals rfl
def ZGW(st:St)(n ip tx ver la b:Nat)(len:Nat)(rx:Nat)(r':AR)(k:Nat)(ro:Ro)(j:Nat):St :=
 ((Qh st la b r').upd n k (.arr 5 0 [ro.av])).upd n ip (.arr 3 0 [.agg [.ptr la (b+5) 0 0 0,.ref n tx ver (j+1) (len-j-1),.ptr n rx 0 0 0]])
theorem PenS.step{tx b:Nat}{its:List It}{F:List (Nat × Blk)}{keys:List Nat}{rx:Nat}{ρ:Nat->Ro}(h:PenS st n ip tx ver la b cls its F keys rx ρ j){r:AR}(hA:Has st la b r)(ho:AROk r)(hn:0<r.n)(hj:its[j]?=some it)
 (hx:NdOk (Q4 ρ it.c)) (hk:ZSE r.nodes (Q4 ρ it.c)) :
 S Tb ZAH [.ptr n ip 0 0 0] st=some (.tup [.int .u64 r.next,.bool (decide (cls.length=j+1)),.int .i64 0],ZGW st n ip tx ver la b cls.length rx (r.add (Q4 ρ it.c)) it.rx ((ρ it.rx).wr r.next) j) /\
 PenS (ZGW st n ip tx ver la b cls.length rx (r.add (Q4 ρ it.c)) it.rx ((ρ it.rx).wr r.next) j) n ip tx ver la b cls its F keys rx (ZO7 ρ it.rx r.next) (j+1) /\
 Has (ZGW st n ip tx ver la b cls.length rx (r.add (Q4 ρ it.c)) it.rx ((ρ it.rx).wr r.next) j) la b (r.add (Q4 ρ it.c)):=by
 obtain⟨td,h1,h2⟩:=h.pen;obtain⟨cl,c1,c2⟩:=h.cl.get hj;have hjl:=(List.getElem?_eq_some_iff.1 c1).1;have hm:=jM hj;obtain⟨k1,k2⟩:=h.key it hm;have hrx:=h.rts it.rx k1;have hrp:=h.s1 it.rx k1
 have hne:cls≠[]:=fun q=>by rw[q]at c1;simp at c1
 rcases h2 with⟨q,_⟩|⟨_,rfl,h3⟩
 ·exact absurd q hne
 have hS:=Zri (it:=it) (ρ:=ρ) (b0:=0) (b1:=0) (b2:=0) (cv:=.nils) h3 c1 c2 h.len h1 h.fx (fun k hk=>h.rts k (k2 k hk)) hrx hA ho hn hx hk h.wr (fun i hi=>h.ar i (by
  rcases hi with rfl|rfl|rfl|q
  ·exact .inr (.inr (.inl k1))
  ·exact .inl Y
  ·exact .inr (.inl ⟨hne,rfl⟩)
  ·exact .inr (.inr (.inr q)))) ⟨hrp.1,hrp.2,h.s2⟩
 have a1:∀i,¬ (n=la/\b<=i/\i<=b+5)->(Qh st la b (r.add (Q4 ρ it.c))).get n i=st.get n i:=fun i hi=>hA.out _ hi
 have g1:∀l' i',((Qh st la b (r.add (Q4 ρ it.c))).upd n it.rx (.arr 5 0 [((ρ it.rx).wr r.next).av])).get l' i'=if l'=n/\i'=it.rx then some (.arr 5 0 [((ρ it.rx).wr r.next).av]) else (Qh st la b (r.add (Q4 ρ it.c))).get l' i' :=
  fun l' i'=>St.get_upd ((a1 _ (h.ar _ (.inr (.inr (.inl k1))))).trans hrx) rfl
 have hp0:((Qh st la b (r.add (Q4 ρ it.c))).upd n it.rx (.arr 5 0 [((ρ it.rx).wr r.next).av])).get n ip=_:=(g1 n ip).trans ((if_neg (fun q=>hrp.1 q.2.symm)).trans ((a1 _ (h.ar _ (.inl rfl))).trans h1))
 have g2:∀l' i',(ZGW st n ip tx ver la b cls.length rx (r.add (Q4 ρ it.c)) it.rx ((ρ it.rx).wr r.next) j).get l' i'=if l'=n/\i'=ip then some (.arr 3 0 [.agg [.ptr la (b+5) 0 0 0,.ref n tx ver (j+1) (cls.length-j-1),.ptr n rx 0 0 0]]) else if l'=n/\i'=it.rx then some (.arr 5 0 [((ρ it.rx).wr r.next).av]) else (Qh st la b (r.add (Q4 ρ it.c))).get l' i':=fun l' i'=>by
  rw[ZGW,St.get_upd hp0 rfl,g1]
 have hw1:(Qh st la b (r.add (Q4 ρ it.c))).wr n:=ZOr hA.cl.wr h.wr;have hwl:(Qh st la b (r.add (Q4 ρ it.c))).wr la:=(hA.put _).wr
 have hw2:∀ {l:Nat},(Qh st la b (r.add (Q4 ρ it.c))).wr l->(ZGW st n ip tx ver la b cls.length rx (r.add (Q4 ρ it.c)) it.rx ((ρ it.rx).wr r.next) j).wr l:=fun w=>St.wr_upd (St.wr_upd hw1 hw1) (St.wr_upd hw1 w)
 refine⟨hS,⟨hw2 hw1,⟨_,by rw[g2,if_pos ⟨rfl,rfl⟩,Nat.sub_sub],.inr ⟨hne,rfl,?_⟩⟩,h.cl,fun p hp=>?_,fun k hk=>?_,h.key,h.rk,h.s1,h.s2,h.s3,h.ar,h.len,hjl⟩,?_⟩
 ·rw[g2,if_neg (fun q=>h.s2 q.2),if_neg (fun q=>hrp.2 q.2.symm),a1 _ (h.ar _ (.inr (.inl ⟨hne,rfl⟩)))];exact h3
 ·obtain⟨q1,q2,q3⟩:=h.s3 p hp
  rw[g2,if_neg (fun q=>q2 q.2),if_neg (fun q=>q1 (by rw[q.2];exact k1)),a1 _ (h.ar _ (.inr (.inr (.inr ⟨p,hp,rfl⟩))))];exact h.fx p hp
 ·obtain⟨q1,q2⟩:=h.s1 k hk
  rw[g2,if_neg (fun q=>q1 q.2)]
  unfold ZO7
  by_cases e:k=it.rx
  ·subst e;rw[if_pos ⟨rfl,rfl⟩,if_pos rfl]
  ·rw[if_neg (fun q=>e q.2),if_neg e,a1 _ (h.ar _ (.inr (.inr (.inl hk))))];exact h.rts k hk
 ·have hP:=hA.put (r.add (Q4 ρ it.c))
  have n1:∀i,b<=i->i<=b+5->¬ (la=n/\i=ip)/\¬ (la=n/\i=it.rx):=fun i i1 i2=>⟨fun q=>h.ar ip (.inl rfl) ⟨q.1.symm,by omega,by omega⟩,fun q=>h.ar it.rx (.inr (.inr (.inl k1))) ⟨q.1.symm,by omega,by omega⟩⟩
  have gg:∀i,b<=i->i<=b+5->(ZGW st n ip tx ver la b cls.length rx (r.add (Q4 ρ it.c)) it.rx ((ρ it.rx).wr r.next) j).get la i=(Qh st la b (r.add (Q4 ρ it.c))).get la i:=fun i i1 i2=>by
   rw[g2,if_neg (n1 i i1 i2).1,if_neg (n1 i i1 i2).2]
  exact⟨hw2 hwl,(gg _ (by omega) (by omega)).trans hP.h0,(gg _ (by omega) (by omega)).trans hP.h1,(gg _ (by omega) (by omega)).trans hP.h2,(gg _ (by omega) (by omega)).trans hP.h3,(gg _ (by omega) (by omega)).trans hP.h4,(gg _ (by omega) (by omega)).trans hP.h5⟩
theorem ZE8{L:List Blk}{lv:Nat}{b:Blk}(T:List Blk)(h:St.get ⟨A,ro,L⟩ lv ix=some b):St.get ⟨A,ro,L++T⟩ lv ix=some b:=by
 unfold St.get at h ⊢
 simp only at h ⊢
 split
 ·rename_i q
  rw[if_pos q]at h;have h2:=(ZBS h).1;rw[jL (List.getElem?_eq_some_iff.1 h2).1];exact h
 ·rename_i q
  rw[if_neg q]at h;exact h
theorem HasR.app{L:List Blk}{b:Nat}{r:AR}(h:HasR ⟨A,ro,L⟩ la b r)(T:List Blk):HasR ⟨A,ro,L++T⟩ la b r :=
 ⟨ZE8 T h.h0,ZE8 T h.h1,ZE8 T h.h2,ZE8 T h.h3,ZE8 T h.h4,ZE8 T h.h5⟩
mutual
theorem AddT.keys:∀ {t:Tr} {rx:Nat} {its:List It} {R:List (Nat × Ro)},AddT t rx its R->rx∈R.map Prod.fst/\∀it∈its,it.rx∈R.map Prod.fst/\∀k∈ZjN it.c,k∈R.map Prod.fst
 | _,_,_,_,.kept h0=>⟨by simp,fun it h=>by simp at h⟩
 | _,_,_,_,.leaf=>⟨by simp,fun it h=>by simp only[List.mem_singleton]at h;subst h;exact⟨by simp,fun k hk=>by simp[ZjN]at hk⟩⟩
 | _,_,_,_,.inner hl hn hx=>by
  obtain⟨h1,h2⟩:=AddL.keys hl
  refine⟨by simp,fun it h=>?_⟩
  rcases List.mem_append.1 h with q|q
  ·obtain⟨a1,a2⟩:=h2 it q
   exact⟨by rw[List.map_append];exact List.mem_append_left _ a1,fun k hk=>by rw[List.map_append];exact List.mem_append_left _ (a2 k hk)⟩
  ·simp only[List.mem_singleton]at q
   subst q
   exact⟨by simp,fun k hk=>by rw[List.map_append];exact List.mem_append_left _ (h1 k hk)⟩
theorem AddL.keys:∀ {l:List Tr} {rs:List Nat} {its:List It} {R:List (Nat × Ro)},AddL l rs its R->(∀r∈rs,r∈R.map Prod.fst)/\∀it∈its,it.rx∈R.map Prod.fst/\∀k∈ZjN it.c,k∈R.map Prod.fst
 | _,_,_,_,.nil=>⟨fun r h=>by simp at h,fun it h=>by simp at h⟩
 | _,_,_,_,.cons ht hl=>by
  obtain⟨a1,a2⟩:=ht.keys;obtain⟨b1,b2⟩:=hl.keys
  refine⟨fun r h=>?_,fun it h=>?_⟩
  ·rw[List.map_append]
   rcases List.mem_cons.1 h with rfl|q
   ·exact List.mem_append_left _ a1
   ·exact List.mem_append_right _ (b1 r q)
  ·rw[List.map_append]
   rcases List.mem_append.1 h with q|q
   ·exact⟨List.mem_append_left _ (a2 it q).1,fun k hk=>List.mem_append_left _ ((a2 it q).2 k hk)⟩
   ·exact⟨List.mem_append_right _ (b2 it q).1,fun k hk=>List.mem_append_right _ ((b2 it q).2 k hk)⟩
end
def Zrk(R:List (Nat × Ro))(k:Nat):Ro:=((R.find? fun p=>p.1 == k).map Prod.snd).getD .zero
theorem Zf5:∀ {R:List (Nat × Ro)},(R.map Prod.fst).Nodup->∀p∈R,Zrk R p.1=p.2
 | [],_,p,hp=>by simp at hp
 | q::R,hn,p,hp=>by
  rw[jC,List.nodup_cons]at hn;unfold Zrk;rw[List.find?_cons]
  rcases List.mem_cons.1 hp with rfl|w
  ·simp
  ·have:q.1≠p.1:=fun e=>hn.1 (by rw[e];exact List.mem_map.2 ⟨p,w,rfl⟩)
   rw[show (q.1 == p.1)=false by simp[this]]
   exact Zf5 hn.2 p w
def PI(t:Tr)(its:List It)(rx:Nat)(ρ:Nat->Ro):Prop:=(IsEmpty t/\its=[]/\ρ rx=.zero)\/(∃N,Val N t)/\∃R,AddT t rx its R/\(∀p∈R,ρ p.1=p.2)/\(R.map Prod.fst).Nodup
def nw(t:Tr):Nat:=if t.old=0/\t.h=0/\t.text=[] then 0 else t.cnt
theorem ZSF{N:ZO}{t:Tr}(hv:Val N t):nw t=t.cnt:=by
 unfold nw
 cases hv with
 | kept h0=>rw[if_neg];simp[Tr.old,h0]
 | leaf h1=>rw[if_neg];rintro⟨_,_,q⟩;simp only[Tr.text]at q;rw[q]at h1;simp at h1
 | inner=>rw[if_neg];simp[Tr.h]
structure Begun(A:List (Bool × List Blk))(L L2:List Blk)(la b:Nat)(t:Tr)(tx ver:Nat)(cs:LV)(its:List It)(F:List (Nat × Blk))(keys:List Nat)(rx:Nat)(ρ:Nat->Ro):Prop where
 ps:PenS ⟨A,false,L2⟩ A.length (L.length+1) tx ver la b cs its F keys rx ρ 0
 len:L.length+2<=L2.length
 old:∀i,i<L.length->L2[i]?=L[i]?
 klo:∀k∈keys,L.length+2<=k
 flo:∀p∈F,L.length+2<=p.1
 tlo:cs≠[]->L.length+2<=tx
 pi:PI t its rx ρ
theorem Zld{N:ZO}{A:List (Bool × List Blk)}{L:List Blk}{la b:Nat}{r:AR}(hA:HasR ⟨A,false,L⟩ la b r)(hN:r.n<=r.blk.length)(h16:r.states.length<=16384)(h6:r.n<65536){t:Tr}(hv:Val r.nodes t)(hb:t.bytes<=65536)(hn:t.cnt<=r.n):
 ∃L2 tx ver cs its F keys rx ρ,S Tb Xr [.ptr la (b+5) 0 0 0,t.av] ⟨A,false,L⟩=some (.tup [.ptr A.length (L.length+1) 0 0 0,.int .i64 0],⟨A,false,L2⟩)/\Begun A L L2 la b t tx ver cs its F keys rx ρ:=by
 have hCk:=fun T=>ZR6 (hA.app T).rd hv hb
 have hNw:=fun st=>Zq6 hv (by omega) st
 have hSt:=fun T=>ZV5 (hA.app T) hN h16 h6
 unfold AR.statsAV at hSt;obtain⟨T,hT⟩:∃T:List Blk,T=[.arr 7 0 [t.av],.arr 3 0 [.agg [.ptr la (b+5) 0 0 0,.nils,.nilptr]]]:=⟨_,rfl⟩
 have hTl:T.length=2:=by rw[hT];rfl
 have hip:(L++T)[L.length+1]?=some (.arr 3 0 [.agg [.ptr la (b+5) 0 0 0,.nils,.nilptr]]):=by rw[QS,hT];rfl
 have hP:Pen A (L++T) (L.length+1) (.ptr la (b+5) 0 0 0) .nils []:=⟨⟨_,hip⟩,.inl ⟨rfl,rfl⟩⟩
 obtain⟨L1,td1,rx,its,cs,R,F,hS,ha⟩:=Zsi hv hb hP (by simp;omega)
 obtain⟨⟨rp,p1⟩,p2⟩:=ha.pen;rw[lE]at p2;have hl1:=ha.frm.len;rw[lL,hTl]at hl1;have hlt1:L.length+1<L1.length:=(List.getElem?_eq_some_iff.1 p1).1
 have hkl:∀k∈R.map Prod.fst,L.length+2<=k:=fun k hk=>by
  obtain⟨p,hp,rfl⟩:=List.mem_map.1 hk
  have:=ha.rlo p hp
  rwa [lL,hTl]at this
 have hfl:∀p∈F,L.length+2<=p.1:=fun p hp=>by
  have:=ha.flo p hp
  rwa [lL,hTl]at this
 have hg:∀i,i≠L.length+1->∀B,(L1.set (L.length+1) B)[i]?=L1[i]?:=fun i hi B=>jS (fun q=>hi q.symm)
 obtain⟨q1,q2⟩:=ha.tr.keys
 have hbl:la=A.length->b+5<L.length:=fun e=>by
  have:=hA.h5
  subst e;rw[St.get_cur]at this;exact (List.getElem?_eq_some_iff.1 (ZBS this).1).1
 -- where the list lies
 obtain⟨tx,ver,t1,t2,t3⟩:∃tx ver,(cs=[]/\td1=.nils/\tx=L.length\/cs≠[]/\td1=.ref A.length tx ver 0 cs.length/\L1[tx]?=some (.arr 1 ver cs)/\L.length+2<=tx/\Ym (L.length+1) td1 tx)/\tx≠L.length+1/\(∀k,L.length+2<=k->¬ Ym (L.length+1) td1 k->k≠tx):=by
  rcases p2 with⟨e1,e2⟩|⟨tx,ver,e1,e2,e3,e4⟩
  ·exact⟨L.length,0,.inl ⟨e2,e1,rfl⟩,by omega,fun k hk _=>by omega⟩
  ·have hX:Ym (L.length+1) td1 tx:=.inr ⟨_,_,_,_,e1⟩
   refine⟨tx,ver,.inr ⟨e4,e1,e2,?_,hX⟩,e3,fun k hk hn q=>hn (by rw[q];exact hX)⟩
   rcases ha.frm.own tx hX with w|w
   ·rcases w with w|⟨_,_,_,_,w⟩
    ·exact absurd w e3
    ·simp at w
   ·rwa [lL,hTl]at w
 refine⟨L1.set (L.length+1) (.arr 3 0 [.agg [.ptr la (b+5) 0 0 0,td1,.ptr A.length rx 0 0 0]]),tx,ver,cs,its,F,R.map Prod.fst,rx,Zrk R,ZAQ Y ?_,⟨⟨by simp[St.wr],⟨td1,by rw[St.get_cur,List.getElem?_set_self hlt1];rfl,?_⟩,ha.cl,?_,?_,q2,q1,?_,t2,?_,?_,?_,Nat.zero_le _⟩,by rw[List.length_set];omega,?_,hkl,hfl,fun hc=>(by
  rcases t1 with⟨w,_⟩|⟨_,_,_,w,_⟩
  ·exact absurd w hc
  ·exact w),.inr ⟨⟨_,hv⟩,R,ha.tr,Zf5 ha.nd,ha.nd⟩⟩⟩
 ·have e0:(⟨A,false,L⟩:St)=⟨A,false,L++[]⟩:=by rw[lN]
  rw[e0];rw[hT]at hS
  repeat'(first|refine Yy Y (Z6 _) (QJ _) Y Y ?_|refine Yy Y Y Y Y Y ?_|refine ZAU Y Y Y (Zp _) ?_|refine ZE ?_|refine ZD ?_|refine ZF Y ?_|refine ZU Y Y ?_|refine ZB Y ?_|refine ZC ?_|refine ZWu (agg:=false) Y Y ?_|refine Z2 Y Y ?_|(refine cm0 Y Y Y ?_ ?_<;>intro _<;>try omega)|(refine cm0 Y Y Y ?_ ?_<;>intro _<;>try omega)|refine ZG Y ?_|refine Zw Y Y Y ?_|refine ZA Y Y (by first|rfl|(simp only[lE,lN,lC,Zg,ZX,ZY];first|done|rfl)) (hCk _) ?_|refine ZA Y Y (by first|rfl|(simp only[lE,lN,lC,Zg,ZX,ZY];first|done|rfl)) (hNw _) ?_|refine ZA Y Y (by first|rfl|(simp only[lE,lN,lC,Zg,ZX,ZY];first|done|rfl)) (hSt _) ?_|refine ZA Y Y (by first|rfl|(simp only[lE,lN,lC,Zg,ZX,ZY];first|done|rfl)) (hS) ?_|refine ZI ?_)
  all_goals try omega
  refine JB p1 Y Y Y ?_ Y ?_
  ·simp only[ZZ,QD,if_pos (Nat.lt_succ_self _)]
  repeat'(first|refine ZE ?_|refine ZD ?_|refine ZF Y ?_|refine ZB Y ?_|refine ZC ?_|refine ZP ?_|refine ZL ?_)
  refine (YG (.inr Y) Y Y Y Y).trans ?_;rfl
 ·rcases t1 with⟨e1,e2,e3⟩|⟨e0,e1,e2,e3⟩
  ·exact .inl ⟨e1,e2⟩
  ·exact .inr ⟨e0,e1,by rw[St.get_cur,hg _ t2,e2];rfl⟩
 ·intro p hp
  obtain⟨f1,f2⟩:=ha.fx p hp;obtain⟨w,v,es,f3,f4⟩:=ha.fw p hp
  have:p.1≠L.length+1:=fun q=>f2 (.inl q)
  rw[St.get_cur,hg _ this,f1,f3];rfl
 ·intro k hk
  obtain⟨p,hp,rfl⟩:=List.mem_map.1 hk;obtain⟨f1,f2⟩:=ha.rts.get hp
  have:p.1≠L.length+1:=fun q=>f2 (.inl q)
  rw[St.get_cur,hg _ this,f1,Zf5 ha.nd p hp];rfl
 ·intro k hk
  have h1:=hkl k hk;obtain⟨p,hp,rfl⟩:=List.mem_map.1 hk
  exact⟨by omega,t3 _ h1 (ha.rts.get hp).2⟩
 ·intro p hp
  obtain⟨f1,f2⟩:=ha.fx p hp;obtain⟨w,v,es,f3,f4⟩:=ha.fw p hp;have h1:=hfl p hp
  refine⟨fun q=>?_,by omega,t3 _ h1 f2⟩
  obtain⟨u,hu,e⟩:=List.mem_map.1 q;have f5:=(ha.rts.get hu).1;rw[e,f1,f3]at f5;simp only[oJ,Blk.arr.injEq]at f5;exact f4 f5.1
 ·intro i hi ⟨e1,e2,e3⟩
  have:=hbl e1.symm
  rcases hi with rfl|⟨c1,rfl⟩|q|⟨p,hp,rfl⟩
  ·omega
  ·rcases t1 with⟨w,_⟩|⟨_,_,_,w,_⟩
   ·exact c1 w
   ·omega
  ·have:=hkl i q;omega
  ·have:=hfl p hp;omega
 ·have h1:=ha.cl.len
  have h2:=ha.tr.cnt;omega
 ·intro i hi
  rw[hg i (by omega),ha.frm.old i (by rw[lL];omega) (fun q=>?_),jL hi]
  rcases q with q|⟨_,_,_,_,q⟩
  ·omega
  ·simp at q
theorem Zf6{A:List (Bool × List Blk)}{ro:Bool}{L:List Blk}{i:Nat}{b:Blk}(h:L[i]?=some b)(hv:vis (some b)=some b):St.get ⟨A,ro,L⟩ A.length i=some b:=by rw[St.get_cur,h,hv]
theorem Zle{t:Tr}(ht:IsEmpty t)(st:St):S Tb ZBB [t.av] st=some (.int .i64 (0:Nat),st) :=
 ZSD (c:=1) ht.ks (fun st=>ZDW t ht st) st
theorem Zhn{A:List (Bool × List Blk)}{L:List Blk}{la b:Nat}{r:AR}(hA:HasR ⟨A,false,L⟩ la b r)(hN:r.n<=r.blk.length)(h16:r.states.length<=16384)(h6:r.n<65536){t:Tr}(ht:IsEmpty t):
 ∃L2 tx ver cs its F keys rx ρ,S Tb Xr [.ptr la (b+5) 0 0 0,t.av] ⟨A,false,L⟩=some (.tup [.ptr A.length (L.length+1) 0 0 0,.int .i64 0],⟨A,false,L2⟩)/\Begun A L L2 la b t tx ver cs its F keys rx ρ:=by
 have hCk:=fun T=>ZSl (st:=⟨A,false,L++T⟩) (lv:=la) (ix:=b+5) ht
 have hNw:=fun st=>Zle ht st
 have hSt:=fun T=>ZV5 (hA.app T) hN h16 h6
 unfold AR.statsAV at hSt
 have hbl:la=A.length->b+5<L.length:=fun e=>by
  have:=hA.h5
  subst e;rw[St.get_cur]at this;exact (List.getElem?_eq_some_iff.1 (ZBS this).1).1
 obtain⟨T,hT⟩:∃T:List Blk,T=[.arr 7 0 [t.av],.arr 3 0 [.agg [.ptr la (b+5) 0 0 0,.nils,.nilptr]]]:=⟨_,rfl⟩
 have hadd:S Tb Qr [.ptr A.length (L.length+1) 0 0 0,t.av] ⟨A,false,L++T⟩=some (.ptr A.length ((L++T).length+1) 0 0 0,⟨A,false,(L++T)++[.arr 7 0 [t.av],.arr 5 0 [Ro.zero.av]]⟩):=by
  refine ZAQ Y ?_
  have e0:(⟨A,false,L++T⟩:St)=⟨A,false,(L++T)++[]⟩:=by rw[lN]
  rw[e0];generalize L++T=L0;obtain⟨o,h,m,s,k⟩:=t;obtain⟨h1,h2,h3,h4,h5⟩:=ht;simp only[Tr.old,Tr.h,Tr.m,Tr.text,Tr.ks]at h1 h2 h3 h4 h5;subst h1 h2 h3 h4
  obtain⟨ka,hka,hka2⟩:∃ka,Tr.avO k=ka/\(ka=.nils\/ka=.lit []):=by
   cases k with
   | none=>exact⟨_,rfl,.inl Y⟩
   | some l=>have:l=[]:=h5;subst this;exact⟨_,rfl,.inr Y⟩
  simp only[Tr.av,Mea.zero,hka]at *
  rcases hka2 with rfl|rfl
  all_goals repeat'(first|refine Yy Y Y Y Y Y ?_|refine ZAU Y Y Y Y ?_|refine ZE ?_|refine ZD ?_|refine ZF Y ?_|refine ZU Y Y ?_|refine QB Y ?_|refine Zl Y Y Y Y ?_|refine ZB Y ?_|refine ZC ?_|refine ZFQ Y Y ?_|refine YF Y ?_|(refine cm0 Y Y Y ?_ ?_<;>intro _<;>try omega)|(refine ZAG Y Y (fun _=>?_) (fun _=>?_)<;>try contradiction)|refine ZS Y ?_|refine Zw Y Y Y ?_|refine ZI ?_|refine ZP ?_|refine ZJ ?_|refine ZL ?_|refine Zz ?_)
  all_goals try first|contradiction|omega
  all_goals refine (YG (.inr Y) Y Y Y Y).trans ?_
  all_goals rfl
 have hTl:T.length=2:=by rw[hT];rfl
 have hl2:(L++T).length=L.length+2:=by rw[lL,hTl]
 rw[hl2]at hadd
 have p1:((L++T)++[Blk.arr 7 0 [t.av],Blk.arr 5 0 [Ro.zero.av]])[L.length+1]?=some (.arr 3 0 [.agg [.ptr la (b+5) 0 0 0,.nils,.nilptr]]):=by
  rw[List.append_assoc,QS,hT];rfl
 refine⟨((L++T)++[Blk.arr 7 0 [t.av],Blk.arr 5 0 [Ro.zero.av]]).set (L.length+1) (Blk.arr 3 0 [.agg [.ptr la (b+5) 0 0 0,.nils,.ptr A.length (L.length+3) 0 0 0]]),L.length,0,[],[],[],[L.length+3],L.length+3,fun _=>.zero,ZAQ Y ?_,⟨⟨by simp[St.wr],⟨.nils,?_,.inl ⟨rfl,rfl⟩⟩,.nil,fun p hp=>by simp at hp,fun k hk=>?_,fun it hi=>by simp at hi,by simp,fun k hk=>?_,by omega,fun p hp=>by simp at hp,fun i hi=>?_,by simp,Nat.zero_le _⟩,by simp,fun i hi=>?_,fun k hk=>?_,fun p hp=>by simp at hp,fun hc=>absurd rfl hc,.inl ⟨ht,rfl,rfl⟩⟩⟩
 ·have e0:(⟨A,false,L⟩:St)=⟨A,false,L++[]⟩:=by rw[lN]
  rw[e0];rw[hT]at hadd p1 ⊢
  repeat'(first|refine Yy Y (Z6 _) (QJ _) Y Y ?_|refine Yy Y Y Y Y Y ?_|refine ZAU Y Y Y (Zp _) ?_|refine ZE ?_|refine ZD ?_|refine ZF Y ?_|refine ZU Y Y ?_|refine ZB Y ?_|refine ZC ?_|refine ZWu (agg:=false) Y Y ?_|refine Z2 Y Y ?_|(refine cm0 Y Y Y ?_ ?_<;>intro _<;>try omega)|(refine cm0 Y Y Y ?_ ?_<;>intro _<;>try omega)|refine ZG Y ?_|refine Zw Y Y Y ?_|refine ZA Y Y (by first|rfl|(simp only[lE,lN,lC,Zg,ZX,ZY];first|done|rfl)) (hCk _) ?_|refine ZA Y Y (by first|rfl|(simp only[lE,lN,lC,Zg,ZX,ZY];first|done|rfl)) (hNw _) ?_|refine ZA Y Y (by first|rfl|(simp only[lE,lN,lC,Zg,ZX,ZY];first|done|rfl)) (hSt _) ?_|refine ZA Y Y (by first|rfl|(simp only[lE,lN,lC,Zg,ZX,ZY];first|done|rfl)) (hadd) ?_|refine ZI ?_)
  all_goals try omega
  refine JB p1 Y Y Y ?_ Y ?_
  ·simp only[ZZ,QD,if_pos (Nat.lt_succ_self _)]
  repeat'(first|refine ZE ?_|refine ZD ?_|refine ZF Y ?_|refine ZB Y ?_|refine ZC ?_|refine ZP ?_|refine ZL ?_)
  refine (YG (.inr Y) Y Y Y Y).trans ?_;rfl
 ·exact Zf6 (List.getElem?_set_self (by simp)) Y
 ·simp only[List.mem_singleton]at hk
  subst hk;refine Zf6 ?_ Y
  rw[jS (by omega),show L.length+3=(L++T).length+1 by rw[hl2],QS];rfl
 ·simp only[List.mem_singleton]at hk
  omega
 ·rintro⟨e1,e2,e3⟩
  have:=hbl e1.symm
  rcases hi with rfl|⟨c1,rfl⟩|q|⟨p,hp,rfl⟩
  ·omega
  ·exact c1 Y
  ·simp only[List.mem_singleton]at q;omega
  ·simp at hp
 ·rw[jS (by omega),List.append_assoc,jL hi]
 ·simp only[List.mem_singleton]at hk
  omega
theorem Zlf{b lv:Nat}(st:St)(h:lv<b):ZZ QD b st (.map lv ix)=some (.map lv ix,st):=by
 simp only[ZZ,QD,if_pos h]
def YW(l:List Nat):List (AV × AV):=l.map fun (h:Nat)=>(AV.int .u64 h,AV.bool true)
theorem Zho(o:Nat):∀l:List Nat,ZAV (.int .u64 o) (YW l)=some (if o∈l then some (.bool true) else none)
 | []=>rfl
 | p::l=>by
  rw[YW,jC,ZAV]
  show (Option.bind (if IntKind.u64=IntKind.u64 then some ((o:Int) == (p:Int)) else none) fun b=>if b=true then some (some (AV.bool true)) else ZAV (.int .u64 o) (YW l))=_
  rw[if_pos rfl,oS,Zho o l]
  by_cases q:o=p
  ·subst q;simp
  ·rw[if_neg (by simp;omega)]
   simp[q]
theorem ZO8(o:Nat):∀l:List Nat,o∉l->ZBV (.int .u64 o) (.bool true) (YW l)=some (YW (l++[o]))
 | [],_=>rfl
 | p::l,h=>by
  simp only[List.mem_cons,not_or]at h;rw[YW,jC,ZBV]
  show (Option.bind (if IntKind.u64=IntKind.u64 then some ((o:Int) == (p:Int)) else none) fun b=>if b=true then some ((AV.int .u64 o,AV.bool true)::YW l) else (ZBV (.int .u64 o) (.bool true) (YW l)).map ((AV.int .u64 p,AV.bool true)::·))=_
  rw[if_pos rfl,oS,if_neg (by simp;omega),ZO8 o l h.2]
  rfl
theorem ZD7{lv:Nat}{l:List Nat}(hg:st.get lv mx=some (.map (YW l)))(o:Nat):lookV st 0 (.bool false) false (.int .u64 o) (.map lv mx)=some (.bool (decide (o∈l))):=by
 simp only[lookV,Zcz,hg,ZAe,oS,J2,if_true,Zho]
 by_cases q:o∈l
 ·simp[q,Zc0]
 ·simp[q,Zc0]
def Z1(h:Nat):AV:=.int .u64 h
section
variable {O:Orc}{k:List Fr}{Q:YD}{e:Env}{A:List (Bool × List Blk)}{L:List Blk}{keep:List Nat}{is:List QAbs.PI}{d:Nat}
theorem ZqY{s x:Opd}{lv jx bytes:Nat}{ys:LV}(hA:A=st.A++[(st.ro,st.L)])(hwr:st.wr lv)(hg:st.get lv jx=some (.arr w ver es))(hs:Ze e s=some (.ref lv jx ver 0 es.length))(hx:Ze e x=some (.lit ys))
 (hw:Q8 w ys=true) (hsl:mapSt (ZZ QD (lv+1)) ⟨A,false,L⟩ ys=some (ys,⟨A,false,L⟩)) (hl:es.length+ys.length<4294967296) (hb:bytes<=4096)
 (h:∀A',A'=(st.upd lv jx (.arr w (ver+1) (es++ys))).A++[((st.upd lv jx (.arr w (ver+1) (es++ys))).ro,(st.upd lv jx (.arr w (ver+1) (es++ys))).L)]->Is O is keep k Q ((d,.ref lv jx (ver+1) 0 (es.length+ys.length))::e) ⟨A',false,L⟩) :
 Is O (⟨some d,none,false,.app w bytes s x⟩::is) keep k Q e ⟨A,false,L⟩:=by
 have hlv:=St.get_le hg;refine Z4 (v:=.ref lv jx (ver+1) 0 (es.length+ys.length)) (st':=St.upd ⟨A,false,L⟩ lv jx (.arr w (ver+1) (es++ys))) ?_ ?_
 ·have hg':=ZQ hA (ro:=false) (L:=L) hg
  have hw':=Xn hA hlv hwr (ro:=false) (L:=L)
  simp only[Zi,evalPO,ZH hs,ZH hx,elems,oS,JQ,hw,if_true,hsl,Zd5,hg',ZLA,true_and,if_pos (show 0+es.length<=es.length/\es.length+ys.length<4294967296/\bytes<=4096 by omega),List.drop_zero]
  rw[List.take_of_length_le (by omega),St.put_upd hw' hg']
  rfl
 ·rw[Jl hA hlv]
  exact h _ Y
end
namespace Tr
mutual
def kwT:Tr->List Nat->List Nat
 | .mk o _ _ _ k,out=>kwO k (if o≠0/\o∉out then out++[o] else out)
def kwO:Option (List Tr)->List Nat->List Nat
 | none,out=>out
 | some l,out=>kwL l out
def kwL:List Tr->List Nat->List Nat
 | [],out=>out
 | t::l,out=>kwL l (kwT t out)
end
mutual
def siz:Tr->Nat
 | .mk _ _ _ _ k=>1+sizO k
def sizO:Option (List Tr)->Nat
 | none=>0
 | some l=>sizL l
def sizL:List Tr->Nat
 | []=>0
 | t::l=>siz t+sizL l
end
theorem kwL_append:∀(a b:List Tr) (out:List Nat),kwL (a++b) out=kwL b (kwL a out)
 | [],b,out=>rfl
 | t::a,b,out=>by rw[lC,kwL,kwL,kwL_append a b]
theorem sizL_append:∀a b,sizL (a++b)=sizL a+sizL b
 | [],b=>by simp[sizL]
 | t::a,b=>by rw[lC,sizL,sizL,sizL_append a b];omega
theorem kwO_getD(k:Option (List Tr))(out:List Nat):kwO k out=kwL (k.getD []) out:=by cases k<;>rfl
theorem sizO_getD(k:Option (List Tr)):sizO k=sizL (k.getD []):=by cases k<;>rfl
theorem kwT_len(t:Tr):∀out,(kwT t out).length<=out.length+t.siz:=by
 induction t using Tr.ind with
 | step o h m s k ih =>
  intro out;rw[kwT,siz,kwO_getD,sizO_getD]
  have key:∀(l:List Tr),(∀t∈l,∀out,(kwT t out).length<=out.length+t.siz)->∀out,(kwL l out).length<=out.length+sizL l:=by
   intro l
   induction l with
   | nil=>intro _ out;simp[kwL,sizL]
   | cons a l ih2 =>
    intro hl out;rw[kwL,sizL]
    have h1:=ih2 (fun t ht=>hl t (by simp[ht])) (kwT a out)
    have h2:=hl a (by simp) out
    omega
  have:=key (k.getD []) ih (if o≠0/\o∉out then out++[o] else out)
  split at this
  ·rename_i q;rw[if_pos q];rw[lL,List.length_singleton]at this;omega
  ·rename_i q;rw[if_neg q];omega
theorem kwL_len:∀(l:List Tr) (out:List Nat),(kwL l out).length<=out.length+sizL l
 | [],out=>by simp[kwL,sizL]
 | t::l,out=>by
  rw[kwL,sizL];have h1:=kwL_len l (kwT t out);have h2:=kwT_len t out;omega
end Tr
structure KS(st:St)(lv mb mx ob ox wb ver:Nat)(out:List Nat):Prop where
 wr:st.wr lv
 hm:st.get lv mb=some (.arr 1 0 [.map lv mx])
 hmx:st.get lv mx=some (.map (YW out))
 ho:st.get lv ob=some (.arr 1 0 [.ref lv ox ver 0 out.length])
 hox:st.get lv ox=some (.arr 1 ver (out.map Z1))
 hw:st.get lv wb=some (.arr 1 0 [.func (.func Y5) [] [.ptr lv mb 0 0 0,.ptr lv ob 0 0 0,.ptr lv wb 0 0 0]])
 n1:mx≠ox
 n2:mx≠ob
 n3:ox≠ob
 n4:mb≠mx/\mb≠ox/\mb≠ob
 n5:wb≠mx/\wb≠ox/\wb≠ob
def Jd(st:St)(lv mx ob ox ver:Nat)(out:List Nat):St:=((st.upd lv mx (.map (YW out))).upd lv ox (.arr 1 ver (out.map Z1))).upd lv ob (.arr 1 0 [.ref lv ox ver 0 out.length])
theorem KS.get{st:St}{lv mb mx ob ox wb ver:Nat}{out:List Nat}(h:KS st lv mb mx ob ox wb ver out)(v:Nat)(t:List Nat)(l' i':Nat):
 (Jd st lv mx ob ox v t).get l' i'=if l'=lv/\i'=ob then some (.arr 1 0 [.ref lv ox v 0 t.length]) else if l'=lv/\i'=ox then some (.arr 1 v (t.map Z1)) else if l'=lv/\i'=mx then some (.map (YW t)) else st.get l' i':=by
 have g1:∀l' i',(st.upd lv mx (.map (YW t))).get l' i'=if l'=lv/\i'=mx then some (.map (YW t)) else st.get l' i':=fun l' i'=>St.get_upd h.hmx rfl
 have b1:(st.upd lv mx (.map (YW t))).get lv ox=some (.arr 1 ver (out.map Z1)):=by rw[g1,if_neg (fun q=>h.n1 q.2.symm)];exact h.hox
 have g2:∀l' i',((st.upd lv mx (.map (YW t))).upd lv ox (.arr 1 v (t.map Z1))).get l' i'=if l'=lv/\i'=ox then some (.arr 1 v (t.map Z1)) else (st.upd lv mx (.map (YW t))).get l' i':=fun l' i'=>St.get_upd b1 rfl
 have b2:((st.upd lv mx (.map (YW t))).upd lv ox (.arr 1 v (t.map Z1))).get lv ob=some (.arr 1 0 [.ref lv ox ver 0 out.length]):=by rw[g2,if_neg (fun q=>h.n3 q.2.symm),g1,if_neg (fun q=>h.n2 q.2.symm)];exact h.ho
 rw[Jd,St.get_upd b2 rfl,g2,g1]
theorem KS.put{st:St}{lv mb mx ob ox wb ver:Nat}{out:List Nat}(h:KS st lv mb mx ob ox wb ver out)(v:Nat)(t:List Nat):KS (Jd st lv mx ob ox v t) lv mb mx ob ox wb v t:=by
 refine⟨St.wr_upd (St.wr_upd (St.wr_upd h.wr h.wr) (St.wr_upd h.wr h.wr)) (St.wr_upd (St.wr_upd h.wr h.wr) (St.wr_upd h.wr h.wr)),?_,?_,?_,?_,?_,h.n1,h.n2,h.n3,h.n4,h.n5⟩
 ·rw[h.get,if_neg (fun q=>h.n4.2.2 q.2),if_neg (fun q=>h.n4.2.1 q.2),if_neg (fun q=>h.n4.1 q.2)];exact h.hm
 ·rw[h.get,if_neg (fun q=>h.n2 q.2),if_neg (fun q=>h.n1 q.2),if_pos ⟨rfl,rfl⟩]
 ·rw[h.get,if_pos ⟨rfl,rfl⟩]
 ·rw[h.get,if_neg (fun q=>h.n3 q.2),if_pos ⟨rfl,rfl⟩]
 ·rw[h.get,if_neg (fun q=>h.n5.2.2 q.2),if_neg (fun q=>h.n5.2.1 q.2),if_neg (fun q=>h.n5.1 q.2)];exact h.hw
theorem KS.same{st:St}{lv mb mx ob ox wb ver:Nat}{out:List Nat}(h:KS st lv mb mx ob ox wb ver out):Jd st lv mx ob ox ver out=st:=by
 rw[Jd,upd_same h.hmx,upd_same h.hox,upd_same h.ho]
theorem Zlg{st:St}{lv mx ob ox v1 v2:Nat}{s t:List Nat}(h1:mx≠ox)(h2:mx≠ob)(h3:ox≠ob):Jd (Jd st lv mx ob ox v1 s) lv mx ob ox v2 t=Jd st lv mx ob ox v2 t:=by
 unfold Jd;generalize Blk.map (YW s)=a1;generalize Blk.map (YW t)=a2;generalize Blk.arr 1 v1 (s.map Z1)=b1;generalize Blk.arr 1 v2 (t.map Z1)=b2;generalize Blk.arr 1 0 [AV.ref lv ox v1 0 s.length]=c1;generalize Blk.arr 1 0 [AV.ref lv ox v2 0 t.length]=c2
 rw[ZJW (st:=(st.upd lv mx a1).upd lv ox b1) (fun q=>h2 q.symm),ZJW (st:=st.upd lv mx a1) (fun q=>h1 q.symm),ZD6,ZJW (st:=(st.upd lv mx a2).upd lv ox b1) (fun q=>h3 q.symm),ZD6,ZD6]
theorem ZjO{st:St}{A:List (Bool × List Blk)}{ro:Bool}{L:List Blk}(hA:A=st.A++[(st.ro,st.L)]){lv mx ob ox ver:Nat}{t:List Nat}(hl:lv<=st.A.length):
 Jd ⟨A,ro,L⟩ lv mx ob ox ver t=⟨(Jd st lv mx ob ox ver t).A++[((Jd st lv mx ob ox ver t).ro,(Jd st lv mx ob ox ver t).L)],ro,L⟩:=by
 unfold Jd;rw[Jl hA hl]
 have e2:=fun (b:Blk)=>Jl (st:=st.upd lv mx (.map (YW t))) (A:=(st.upd lv mx (.map (YW t))).A++[((st.upd lv mx (.map (YW t))).ro,(st.upd lv mx (.map (YW t))).L)]) (ro:=ro) (L:=L) (lv:=lv) (ix:=ox) (b:=b) rfl (by rw[St.upd_A];exact hl)
 rw[e2]
 exact Jl Y (by rw[St.upd_A,St.upd_A];exact hl)
theorem KS.push{st:St}{A:List (Bool × List Blk)}{ro:Bool}{L:List Blk}(hA:A=st.A++[(st.ro,st.L)]){lv mb mx ob ox wb ver:Nat}{out:List Nat}(h:KS st lv mb mx ob ox wb ver out):KS ⟨A,ro,L⟩ lv mb mx ob ox wb ver out :=
 ⟨Xn hA (St.get_le h.hm) h.wr,ZQ hA h.hm,ZQ hA h.hmx,ZQ hA h.ho,ZQ hA h.hox,ZQ hA h.hw,h.n1,h.n2,h.n3,h.n4,h.n5⟩
theorem ZqZ(st:St)(lv mx ob ox ver:Nat)(out:List Nat):(Jd st lv mx ob ox ver out).A.length=st.A.length:=by
 unfold Jd;rw[St.upd_A,St.upd_A,St.upd_A]
theorem Zqa(t:Tr):t.Pos->∀ {st:St} {lv mb mx ob ox wb ver:Nat} {out:List Nat},KS st lv mb mx ob ox wb ver out->out.length+t.siz<4294967296 ->
 Sp Tb Y5 [t.av,.ptr lv mb 0 0 0,.ptr lv ob 0 0 0,.ptr lv wb 0 0 0] st fun v st'=>v=.tup []/\∃ver',st'=Jd st lv mx ob ox ver' (t.kwT out):=by
 induction t using Tr.ind with
 | step o h m s k ih =>
  intro hp st lv mb mx ob ox wb ver out hs hl
  cases hp with
  | mk h0 h4 hk2 =>
  have e1:(Tr.mk o h m s k).kwT out=Tr.kwL (k.getD []) (if o≠0/\o∉out then out++[o] else out):=by rw[Tr.kwT,Tr.kwO_getD]
  have e2:(Tr.mk o h m s k).siz=1+Tr.sizL (k.getD []):=by rw[Tr.siz,Tr.sizO_getD]
  rw[e1];rw[e2]at hl;refine Zmu Y ?_;obtain⟨A,hA⟩:∃A,A=st.A++[(st.ro,st.L)]:=⟨_,rfl⟩;rw[<- hA];have hlv:=St.get_le hs.hm
  have hav:(Tr.mk o h m s k).av=.agg [.int .u64 o,.int .i64 h,.int .i64 m.b,.int .i64 m.r,.int .i64 m.l,.str s,slV Tr.av k]:=by rw[Tr.av,Tr.avO_sl]
  -- the loop over the children
  have key:∀(ver1:Nat) (out1:List Nat) (A1:List (Bool × List Blk)),A1=(Jd st lv mx ob ox ver1 out1).A++[((Jd st lv mx ob ox ver1 out1).ro,(Jd st lv mx ob ox ver1 out1).L)]->out1.length<=out.length+1->∀e:Env,e=[(3,.ptr lv wb 0 0 0),(4,.ptr A.length 0 0 0 0)]\/e=[(1,.ptr lv mb 0 0 0),(2,.ptr lv ob 0 0 0),(3,.ptr lv wb 0 0 0),(4,.ptr A.length 0 0 0 0),(16,.bool false)] ->
   Ru (S Tb) (.seq ZGn (.block 0 (.loop ZBu))) [] (fun x e st''=>∃v st',Qj false ([]:List RV) (x,e,st'')=some (v,st')/\v=.tup []/\∃ver',st'=Jd st lv mx ob ox ver' (Tr.kwL (k.getD []) out1)) e ⟨A1,false,[.arr 7 0 [(Tr.mk o h m s k).av]]⟩:=by
   intro ver1 out1 A1 hA1 hl1 e he
   have hAl:A.length=A1.length:=by rw[hA,hA1];simp[ZqZ]
   rw[hAl]at he;rw[hav]
   cases k with
   | none =>
    simp only[slV]
    rcases he with rfl|rfl
    all_goals repeat'(first|refine ZE ?_|refine ZD ?_|refine ZF Y ?_|refine ZU Y Y ?_|refine ZV Y Y Y Y ?_|refine ZB Y ?_|refine ZC ?_|refine YF Y ?_|(refine cm0 Y Y Y ?_ ?_<;>intro _<;>try omega)|refine ZG Y ?_|refine Yd ?_|refine Zo ?_|refine ZJ ?_|refine ZL ?_|refine Zc ?_|refine Za Y ?_)
    all_goals try omega
    all_goals exact⟨_,_,Zf hA1 (.inl Y) Y Y Y Y Y,rfl,ver1,rfl⟩
   | some l =>
    simp only[Option.getD]at h4 hk2 ih hl ⊢;simp only[slV]
    have hloop:Ru (S Tb) (.loop ZBu) [.blk 0] (fun x e st''=>∃v st',Qj false ([]:List RV) (x,e,st'')=some (v,st')/\v=.tup []/\∃ver',st'=Jd st lv mx ob ox ver' (Tr.kwL l out1)) [(3,.ptr lv wb 0 0 0),(26,.lit (l.map Tr.av)),(27,.int .i64 l.length),(28,.int .i64 0)] ⟨A1,false,[.arr 7 0 [.agg [.int .u64 o,.int .i64 h,.int .i64 m.b,.int .i64 m.r,.int .i64 m.l,.str s,.lit (l.map Tr.av)]]]⟩:=by
     refine Zt (α:=Nat × List Blk × Nat) (fun p=>[(3,.ptr lv wb 0 0 0),(26,.lit (l.map Tr.av)),(27,.int .i64 l.length),(28,.int .i64 p.1)])
      (fun p=>⟨(Jd st lv mx ob ox p.2.2 (Tr.kwL (l.take p.1) out1)).A++[((Jd st lv mx ob ox p.2.2 (Tr.kwL (l.take p.1) out1)).ro,(Jd st lv mx ob ox p.2.2 (Tr.kwL (l.take p.1) out1)).L)],false,.arr 7 0 [.agg [.int .u64 o,.int .i64 h,.int .i64 m.b,.int .i64 m.r,.int .i64 m.l,.str s,.lit (l.map Tr.av)]]::p.2.1⟩)
      (fun p=>p.1<=l.length) (fun p=>l.length-p.1) (0,[],ver1) rfl ?_ (by simp) ?_
     ·simp only[List.take_zero,Tr.kwL,<- hA1]
     rintro⟨i,G,ver2⟩ hi
     simp only at hi ⊢
     have hk3:=hs.put ver2 (Tr.kwL (l.take i) out1)
     have hpp:∀v3 t3,Jd (Jd st lv mx ob ox ver2 (Tr.kwL (l.take i) out1)) lv mx ob ox v3 t3=Jd st lv mx ob ox v3 t3:=fun v3 t3=>Zlg hs.n1 hs.n2 hs.n3
     generalize hs1:Jd st lv mx ob ox ver2 (Tr.kwL (l.take i) out1)=st1 at *
     obtain⟨A2,hA2⟩:∃A2,A2=st1.A++[(st1.ro,st1.L)]:=⟨_,rfl⟩;rw[<- hA2]
     have hgw:=fun L=>ZQ hA2 (ro:=false) (L:=L) hk3.hw
     repeat'(first|refine ZE ?_|refine ZD ?_|refine ZB Y ?_|refine ZC ?_|(refine cm0 Y Y Y ?_ ?_<;>intro _<;>try omega)|refine ZS Y ?_|refine ZG Y ?_|refine Z0 Y Y Y ?_|refine YQ Y Y (by omega) Z6 (fun _ _=>?_)|refine QF Y (Zp _) ?_|refine J9 Y Y Y (QQ _ _ _) (Qx _ _) Y ?_|refine ZI ?_|refine Zo ?_|refine ZJ ?_|refine ZL ?_|refine Zc ?_|refine Za Y ?_|refine Zk ?_)
     ·rename_i u hu
      have hu2:l[i]?=some u:=hu;have hum:=jM hu2;have hle:lv<=st1.A.length:=St.get_le hk3.hm
      have hsum:Tr.sizL l=Tr.sizL (l.take i)+(u.siz+Tr.sizL (l.drop (i+1))):=by
       conv=>lhs;rw[<- List.take_append_drop (i+1) l,ZW hu2,Tr.sizL_append,Tr.sizL_append]
       simp[Tr.sizL];omega
      have hlen:=Tr.kwL_len (l.take i) out1
      have ihu:=fun L=>ih u hum (hk2 u hum) (hk3.push hA2 (ro:=false) (L:=L)) (by omega)
      have hkw:Tr.kwL (l.take (i+1)) out1=u.kwT (Tr.kwL (l.take i) out1):=by
       rw[ZW hu2,Tr.kwL_append];rfl
      refine Z5 Y (hgw _) Y Y ?_
      repeat'(refine Ql Y Y (Zp _) ?_)
      refine ZV1 Y Y (wk4 _ _ _ _ Y Y Y) (ihu _) ?_
      rintro v st' ⟨rfl,v3,rfl⟩
      rw[ZjO hA2 hle,hpp,<- hkw]
      repeat'(first|refine ZD ?_|refine ZF Y ?_|refine ZB Y ?_|refine ZC ?_|refine Zj Y Y (by omega) ?_|refine Zz ?_|refine Z7 ?_)
      exact⟨(i+1,_,v3),⟨rfl,rfl⟩,by simp only;omega,by simp only;omega⟩
     ·have hi':i=l.length:=by omega
      subst hi'
      rw[List.take_length]at *
      exact⟨_,_,Zf hA2 (.inl Y) Y Y Y Y Y,rfl,ver2,hs1.symm⟩
    rcases he with rfl|rfl
    all_goals repeat'(first|exact hloop|refine ZE ?_|refine ZD ?_|refine ZF Y ?_|refine ZU Y Y ?_|refine ZV Y Y Y Y ?_|refine ZB Y ?_|refine ZC ?_|refine QL Y ?_|refine ZJ ?_)
  have hg1:=fun L=>ZQ hA (ro:=false) (L:=L) hs.hm
  have hg2:=fun L=>ZQ hA (ro:=false) (L:=L) hs.hmx
  have hlk:=fun L=>ZD7 (hg2 L) o
  have hkey0:=key ver out A (by rw[hs.same];exact hA) (by omega) _ (.inr Y)
  have hwide:=Z6 (Tr.mk o h m s k);have hforce:=QJ (Tr.mk o h m s k);rw[hav]at hwide hforce
  by_cases ho:o=0
  ·subst ho
   rw[if_neg (by simp)]
   rw[hav]at hkey0 ⊢
   repeat'(first|refine Z0 Y hwide hforce ?_|exact hkey0|refine ZE ?_|refine ZD ?_|refine ZF Y ?_|refine ZU Y Y ?_|refine ZV Y Y Y Y ?_|refine Q6 Y Y ?_|refine Zl Y Y Y Y ?_|refine ZB Y ?_|refine ZC ?_|(refine cm0 Y Y Y ?_ ?_<;>intro _<;>try omega)|refine ZG Y ?_|refine ZI ?_)
   all_goals contradiction
  ·by_cases hm:o∈out
   ·rw[if_neg (by simp[hm])]
    rw[hav]at hkey0 ⊢;rw[decide_eq_true hm]at hlk
    repeat'(first|refine Z0 Y hwide hforce ?_|exact hkey0|refine ZE ?_|refine ZD ?_|refine ZF Y ?_|refine ZU Y Y ?_|refine ZV Y Y Y Y ?_|refine QB Y ?_|refine Zl Y Y Y Y ?_|refine ZB Y ?_|refine ZC ?_|(refine cm0 Y Y Y ?_ ?_<;>intro _<;>try omega)|refine ZG Y ?_|refine JW Y Y ?_|refine Z5 Y (hg1 _) Y Y ?_|refine YZ Y Y (hlk _) ?_|refine ZI ?_)
    all_goals contradiction
   ·rw[if_pos ⟨ho,hm⟩]
    have hkey:=key (ver+1) (out++[o]);rw[hav]at hkey ⊢;rw[decide_eq_false hm]at hlk
    repeat'(first|refine Z0 Y hwide hforce ?_|refine ZE ?_|refine ZD ?_|refine ZF Y ?_|refine ZU Y Y ?_|refine ZV Y Y Y Y ?_|refine QB Y ?_|refine Zl Y Y Y Y ?_|refine ZB Y ?_|refine ZC ?_|(refine cm0 Y Y Y ?_ ?_<;>intro _<;>try omega)|refine ZS Y ?_|refine JW Y Y ?_|refine Z5 Y (hg1 _) Y Y ?_|refine YZ Y Y (hlk _) ?_)
    all_goals try contradiction
    refine Zhh hA Y Y Y hs.wr hs.hmx Y (ZO8 o out hm) (fun A' hA'=>?_)
    have q1:∀l' i',(st.upd lv mx (.map (YW (out++[o])))).get l' i'=if l'=lv/\i'=mx then some (.map (YW (out++[o]))) else st.get l' i':=fun l' i'=>St.get_upd hs.hmx rfl
    have ka:(st.upd lv mx (.map (YW (out++[o])))).get lv ob=some (.arr 1 0 [.ref lv ox ver 0 out.length]):=by rw[q1,if_neg (fun q=>hs.n2 q.2.symm)];exact hs.ho
    have kb:(st.upd lv mx (.map (YW (out++[o])))).get lv ox=some (.arr 1 ver (out.map Z1)):=by rw[q1,if_neg (fun q=>hs.n1 q.2.symm)];exact hs.hox
    have hw1:=St.wr_upd (b:=.map (YW (out++[o]))) (ix:=mx) hs.wr hs.wr
    have hAl:A.length=A'.length:=by rw[hA,hA'];simp[St.upd_A]
    rw[hAl]at hkey ⊢
    have hput:Jd st lv mx ob ox (ver+1) (out++[o])=((st.upd lv mx (.map (YW (out++[o])))).upd lv ox (.arr 1 (ver+1) (out.map Z1++[.int .u64 o]))).upd lv ob (.arr 1 0 [.ref lv ox (ver+1) 0 (out.length+1)]):=by
     unfold Jd;rw[List.map_append,lL];rfl
    rw[hput]at hkey;clear hput q1
    generalize st.upd lv mx (.map (YW (out++[o])))=st1 at *
    have hg3:=fun L=>ZQ hA' (ro:=false) (L:=L) ka
    repeat'(first|refine ZD ?_|refine ZU Y Y ?_|refine ZV Y Y Y Y ?_|refine ZB Y ?_|refine ZC ?_|refine QX Y Y Y Y ?_|refine Z5 Y (hg3 _) Y Y ?_)
    refine ZqY hA' hw1 kb (by rw[List.length_map];rfl) rfl rfl rfl (by simp;omega) (by decide) (fun A2 hA2=>?_)
    have q2:∀l' i',(st1.upd lv ox (.arr 1 (ver+1) (out.map Z1++[.int .u64 o]))).get l' i'=if l'=lv/\i'=ox then some (.arr 1 (ver+1) (out.map Z1++[.int .u64 o])) else st1.get l' i':=fun l' i'=>St.get_upd kb rfl
    have kc:(st1.upd lv ox (.arr 1 (ver+1) (out.map Z1++[.int .u64 o]))).get lv ob=some (.arr 1 0 [.ref lv ox ver 0 out.length]):=by rw[q2,if_neg (fun q=>hs.n3 q.2.symm)];exact ka
    have hw2:=St.wr_upd (b:=.arr 1 (ver+1) (out.map Z1++[.int .u64 o])) (ix:=ox) hw1 hw1
    have hAl2:A'.length=A2.length:=by rw[hA',hA2];simp[St.upd_A]
    rw[hAl2]at hkey ⊢
    generalize st1.upd lv ox (.arr 1 (ver+1) (out.map Z1++[.int .u64 o]))=st2 at *
    refine ZH9 hA2 Y Y hw2 kc Y (Jc _ (Nat.lt_succ_self _)) Y (fun A3 hA3=>?_)
    have hAl3:A2.length=A3.length:=by rw[hA2,hA3];simp[St.upd_A]
    rw[hAl3]at hkey ⊢
    have hk:=hkey A3 (by rw[hA3];simp) (by simp) _ (.inl rfl)
    repeat'(first|exact hk|refine ZB Y ?_|refine ZC ?_)
theorem Zrl{t:Tr}(hp:t.Pos)(hsz:t.siz<4294967296)(st:St):S Tb ZID [t.av] st=some (.lit ((t.kwT []).map Z1),st):=by
 refine QK Y (fun A hA=>?_)
 have hW:∀L,L=[.arr 7 0 [t.av],.arr 1 0 [],.arr 1 0 [.ref A.length 1 0 0 0],.map [],.arr 1 0 [.map A.length 3],.arr 1 0 [.func (.func Y5) [] [.ptr A.length 4 0 0 0,.ptr A.length 2 0 0 0,.ptr A.length 5 0 0 0]]] ->
  Sp Tb Y5 [t.av,.ptr A.length 4 0 0 0,.ptr A.length 2 0 0 0,.ptr A.length 5 0 0 0] ⟨A,false,L⟩ fun v st'=>v=.tup []/\∃ver',st'=Jd ⟨A,false,L⟩ A.length 3 2 1 ver' (t.kwT []):=by
  rintro L rfl
  refine Zqa t hp (ver:=0) (mb:=4) (mx:=3) (ob:=2) (ox:=1) (wb:=5) ⟨by simp[St.wr],by rw[St.get_cur];rfl,by rw[St.get_cur];rfl,by rw[St.get_cur];rfl,by rw[St.get_cur];rfl,by rw[St.get_cur];rfl,by decide,by decide,by decide,by decide,by decide⟩ (by simp;omega)
 repeat'(first|refine ZE ?_|refine ZD ?_|refine ZF Y ?_|refine ZV Y Y Y Y ?_|refine ZB Y ?_|refine ZC ?_|refine ZAP Y Y ?_|refine Zn Y Y Y ?_|refine ZEa Y ?_|refine ZEb Y ?_|refine ZV Y Y Y (Zp _) ?_|refine Z0 Y (Z6 _) (QJ _) ?_|refine Zy Y Y Y (Zlf _ (Nat.lt_succ_self _)) Y Y ?_|refine Zy Y Y Y (ZO3 _ (Nat.lt_succ_self _)) Y Y ?_)
 refine ZV1 Y Y (wk4 _ _ _ _ Y Y Y) (hW _ Y) ?_
 rintro v st' ⟨rfl,v2,rfl⟩
 have hpc:∀b0 b1 b2 b3 b4 b5 w,Jd ⟨A,false,[b0,b1,b2,b3,b4,b5]⟩ A.length 3 2 1 v2 w=⟨A,false,[b0,.arr 1 v2 (w.map Z1),.arr 1 0 [.ref A.length 1 v2 0 w.length],.map (YW w),b4,b5]⟩:=by
  intro b0 b1 b2 b3 b4 b5 w
  simp[Jd,St.upd]
 rw[hpc]
 generalize t.kwT []=w at *
 repeat'(first|refine ZE ?_|refine ZD ?_|refine ZF Y ?_|refine ZV Y Y Y Y ?_|refine ZB Y ?_|refine ZC ?_|refine ZP ?_|refine ZL ?_)
 refine ZDt (es:=w.map Z1) hA (by simp) Y Y (by simp) (by intro v hv;obtain⟨x,_,rfl⟩:=List.mem_map.1 hv;rfl) ?_
 rfl
def wrV(t:Tr)(r:AR):AR × Ro × List Nat:=if t.old=0/\t.h=0/\t.text=[] then (r,.zero,[]) else t.wr r
theorem ZkM{N:ZO}(hv:Val N t)(r:AR):wrV t r=t.wr r:=by
 unfold wrV
 cases hv with
 | kept h0=>rw[if_neg];simp[Tr.old,h0]
 | leaf h1=>rw[if_neg];rintro⟨_,_,q⟩;simp only[Tr.text]at q;rw[q]at h1;simp at h1
 | inner=>rw[if_neg];simp[Tr.h]
theorem Zdn(h:IsEmpty t)(r:AR):wrV t r=(r,.zero,[]):=by
 unfold wrV;rw[if_pos ⟨h.old,h.h,h.text⟩]
theorem Val.not_empty{N:ZO}(hv:Val N t):¬ IsEmpty t:=fun h=>by
 have:=hv.pos.2
 have:=h.bytes
 omega
theorem PI.run{r:AR}(ho:AROk r)(hg:GoodN r.nodes)(hv:VE r.nodes t)(hb:t.bytes<=65536)(hn:nw t<=r.n){its:List It}{rx:Nat}{ρ:Nat->Ro}(h:PI t its rx ρ):
 ∃ρ',RunOk its r ρ (wrV t r).1 ρ' (wrV t r).2.2/\ρ' rx=(wrV t r).2.1:=by
 rcases h with⟨h1,rfl,h2⟩|⟨⟨M,hM⟩,R,h1,h2,h3⟩
 ·rw[Zdn h1];exact⟨ρ,.nil,h2⟩
 ·rcases hv with hv|hv
  ·exact absurd hv hM.not_empty
  ·rw[ZkM hv]
   rw[ZSF hv]at hn;obtain⟨ρ',a1,a2,_⟩:=exec_ok hg hv hb r ho hg (.refl _) hn rx its R ρ h1 h2 h3;exact⟨ρ',a1,a2⟩
theorem ZkN{L:List Blk}{b:Nat}{r:AR}(hA:HasR ⟨A,false,L⟩ la b r)(hN:r.n<=r.blk.length)(h16:r.states.length<=16384)(h6:r.n<65536)(hv:VE r.nodes t)(hb:t.bytes<=65536)(hn:nw t<=r.n):
 ∃L2 tx ver cs its F keys rx ρ,S Tb Xr [.ptr la (b+5) 0 0 0,t.av] ⟨A,false,L⟩=some (.tup [.ptr A.length (L.length+1) 0 0 0,.int .i64 0],⟨A,false,L2⟩)/\Begun A L L2 la b t tx ver cs its F keys rx ρ:=by
 rcases hv with hv|hv
 ·exact Zhn hA hN h16 h6 hv
 ·rw[ZSF hv]at hn
  exact Zld (N:=r.nodes) hA hN h16 h6 hv hb hn
theorem Zqb{L:List Blk}{l:List Nat}{ro:Ro}{e:Int}(hg:L[ix]?=some (.arr 1 ver (l.map Z1)))(hn:n=l.length):
 ZZ QD A.length ⟨A,false,L⟩ (.tup [ro.av,.ref A.length ix ver 0 n,.int .i64 e])=some (.tup [ro.av,.lit (l.map Z1),.int .i64 e],⟨A,false,L.set ix .dead⟩):=by
 subst hn
 have h1:=ZJp (n:=4) (A:=A) (s:=0) (m:=l.length) hg (by simp) (es':=l.map Z1) (by
  rw[List.drop_zero,List.take_of_length_le (by simp)]
  exact ZSC (k:=.u64) (fun n:Nat=>(n:Int)) 3 0 _ l)
 show (mapSt (ZZ 5 A.length) _ _).bind Zd3=_
 have h2:ZZ 5 A.length ⟨A,false,L⟩ ro.av=some (ro.av,⟨A,false,L⟩):=rfl;simp only[mapSt,h2,oS,h1];rfl
theorem RunOk.len{its:List It}{r:AR}{ρ ρ':Nat->Ro}{hs:List Nat}(h:RunOk its r ρ r' ρ' hs):hs.length=its.length:=by
 induction h with
 | nil=>rfl
 | cons hn hx hk h ih=>simp[ih]
theorem RunOk.inv{its:List It}{r:AR}{ρ ρ':Nat->Ro}{l:List Nat}(h:RunOk (it::its) r ρ r' ρ' l):
 ∃hs,l=r.next::hs/\0<r.n/\NdOk (Q4 ρ it.c)/\ZSE r.nodes (Q4 ρ it.c)/\RunOk its (r.add (Q4 ρ it.c)) (ZO7 ρ it.rx r.next) r' ρ' hs:=by
 cases h with
 | cons hn hx hk h=>exact⟨_,rfl,hn,hx,hk,h⟩
theorem RunOk.nil_inv{r:AR}{ρ ρ':Nat->Ro}{l:List Nat}(h:RunOk [] r ρ r' ρ' l):l=[]/\r'=r/\ρ'=ρ:=by
 cases h;exact⟨rfl,rfl,rfl⟩
theorem Znn{b:Nat}(hl:la<=st.A.length)(rj r2:AR)(hn:n=st.A.length+1)(L:List Blk)(ip tx ver len rx k:Nat)(ro:Ro)(j:Nat):
 ZGW ⟨(Qh st la b rj).ps,false,L⟩ n ip tx ver la b len rx r2 k ro j=⟨(Qh st la b r2).ps,false,(L.set k (.arr 5 0 [ro.av])).set ip (.arr 3 0 [.agg [.ptr la (b+5) 0 0 0,.ref n tx ver (j+1) (len-j-1),.ptr n rx 0 0 0]])⟩:=by
 have e1:Qh ⟨(Qh st la b rj).ps,false,L⟩ la b r2=⟨(Qh st la b r2).ps,false,L⟩:=by
  rw[ZBG rfl (by rw[ZGU];exact hl),ZlW]
 have e2:((Qh st la b r2).ps).length=n:=by rw[hn];simp[ZGU]
 rw[ZGW,e1];unfold St.upd;simp only[e2,if_true]
theorem PenS.frm{L:List Blk}{tx b:Nat}{its:List It}{F:List (Nat × Blk)}{keys:List Nat}{rx:Nat}{ρ:Nat->Ro}(h:PenS ⟨A,false,L⟩ n ip tx ver la b cls its F keys rx ρ j)(hn:n=A.length)
 (hg:∀i,i=ip\/(cls≠[]/\i=tx)\/i∈keys\/(∃p∈F,i=p.1)->L'[i]?=L[i]?):PenS ⟨A,false,L'⟩ n ip tx ver la b cls its F keys rx ρ j:=by
 subst hn;obtain⟨td,h1,h2⟩:=h.pen
 have hget:∀i,(i=ip\/(cls≠[]/\i=tx)\/i∈keys\/(∃p∈F,i=p.1))->St.get ⟨A,false,L'⟩ A.length i=St.get ⟨A,false,L⟩ A.length i:=fun i hi=>by rw[St.get_cur,St.get_cur,hg i hi]
 refine⟨by simp[St.wr],⟨td,by rw[hget _ (.inl rfl)];exact h1,?_⟩,h.cl,fun p hp=>by rw[hget _ (.inr (.inr (.inr ⟨p,hp,rfl⟩)))];exact h.fx p hp,fun k hk=>by rw[hget _ (.inr (.inr (.inl hk)))];exact h.rts k hk,h.key,h.rk,h.s1,h.s2,h.s3,h.ar,h.len,h.jl⟩
 rcases h2 with q|⟨hc,q1,q2⟩
 ·exact .inl q
 ·exact .inr ⟨hc,q1,by rw[hget _ (.inr (.inl ⟨hc,rfl⟩))];exact q2⟩
theorem Zno{L:List Blk}{x:Ex}{c4 c5 c6 j4 w4 v4:Nat}{l:List Nat}{ro:Ro}{z:Int}(hA:A=st.A++[(st.ro,st.L)])(hx:x=.norm\/x=.ret)(h4:J7 e c4=some (.ptr A.length j4 v4 0 0))(hg4:L[j4]?=some (.arr w4 v4 [ro.av]))
 (h5:J7 e c5=some (.ref A.length ix ver 0 n)) (hg5:L[ix]?=some (.arr 1 ver (l.map Z1))) (hn:n=l.length) (h6:J7 e c6=some (.int .i64 z)):Qj false [.c c4 true 5,.s c5,.s c6] (x,e,⟨A,false,L⟩)=some (.tup [ro.av,.lit (l.map Z1),.int .i64 z],st):=by
 refine ZEE (v:=.tup [ro.av,.ref A.length ix ver 0 n,.int .i64 z]) hA hx ?_ (Zqb hg5 hn) Y
 have h1:ZBp ⟨A,false,L⟩ e (.c c4 true 5)=some ro.av:=by
  simp only[ZBp,QM h4,loadP,St.get_cur,hg4,vis,ZES,if_true,List.getElem?_cons_zero,oS];rfl
 simp only[QT,ZEC,h1,oS];simp only[ZBp,QM h5,QM h6,oS,Option.map_some,ZGd]
theorem Zf7{b:Nat}{r:AR}(hA:Has st la b r)(ho:AROk r)(hg:GoodN r.nodes)(hv:VE r.nodes t)(hb:t.bytes<=65536)(hn:nw t<=r.n):
 S Tb Xo [.ptr la (b+5) 0 0 0,t.av] st=some (.tup [(wrV t r).2.1.av,.lit ((wrV t r).2.2.map Z1),.int .i64 0],Qh st la b (wrV t r).1):=by
 refine ZB1 Y (fun A hA'=>?_)
 obtain⟨LB,hLB⟩:∃LB:List Blk,LB=[.arr 7 0 [t.av],.arr 5 0 [Ro.zero.av],.arr 1 0 []]:=⟨_,rfl⟩;have hle:=hA.le
 have hla:la<A.length:=by rw[hA'];simp;omega
 have h3:LB.length=3:=by rw[hLB];rfl
 obtain⟨L2,tx,ver,cs,its,F,keys,rx,ρ,hS,hB⟩:=ZkN (L:=LB) (hA.push hA').r ho.nb ho.n16 (by have:=ho.nn;have:=ho.n16;omega) hv hb hn
 obtain⟨ρ',hrun,hro⟩:=hB.pi.run ho hg hv hb hn
 generalize (wrV t r).1=r' at *
 generalize (wrV t r).2.2=hs at *
 generalize (wrV t r).2.1=ro at *
 have hcl:=hB.ps.cl.len
 have hk5:∀k∈keys,5<=k:=fun k hk=>by have:=hB.klo k hk;omega
 have g1:L2[1]?=some (.arr 5 0 [Ro.zero.av]):=by rw[hB.old 1 (by omega),hLB];rfl
 have g2:L2[2]?=some (.arr 1 0 (([]:List Nat).map Z1)):=by rw[hB.old 2 (by omega),hLB];rfl
 have hps:=hB.ps;rw[h3]at hS hps;rw[hLB]at hS
 repeat'(first|refine ZE ?_|refine ZD ?_|refine ZF Y ?_|refine Zr Y Y ?_|refine ZB Y ?_|refine ZC ?_|(refine cm0 Y Y Y ?_ ?_<;>intro _<;>try omega)|refine ZG Y ?_|refine Zn Y Y Y ?_|refine ZBM Y ?_|refine ZV Y Y Y (Zp _) ?_|refine Z0 Y (Z6 _) (QJ _) ?_|refine ZA Y Y (by first|rfl|(simp only[lE,lN,lC,Zg,ZX,ZY];first|done|rfl)) (hS) ?_|refine ZI ?_|refine ZJ ?_)
 all_goals try contradiction
 have hAn:A.length=st.A.length+1:=by rw[hA'];simp
 have hhl:=hrun.len
 refine Zt (α:=Bool × Nat × AR × (Nat->Ro) × List Blk) (fun p=>match p.1 with
  | true=>[(4,.ptr A.length 1 0 0 0),(5,.ref A.length 2 p.2.1 0 p.2.1),(6,.int .i64 0),(7,.ptr A.length 4 0 0 0),(18,.bool false)]
  | false=>[(4,.ptr A.length 1 0 0 0),(5,.ref A.length 2 p.2.1 0 p.2.1),(7,.ptr A.length 4 0 0 0)])
  (fun p=>⟨(Qh st la b p.2.2.1).ps,false,p.2.2.2.2⟩)
  (fun p=>PenS ⟨(Qh st la b p.2.2.1).ps,false,p.2.2.2.2⟩ A.length 4 tx ver la b cs its F keys rx p.2.2.2.1 p.2.1/\AROk p.2.2.1/\RunOk (its.drop p.2.1) p.2.2.1 p.2.2.2.1 r' ρ' (hs.drop p.2.1)/\p.2.1<=its.length/\p.2.2.2.2[1]?=some (.arr 5 0 [Ro.zero.av])/\p.2.2.2.2[2]?=some (.arr 1 p.2.1 ((hs.take p.2.1).map Z1)))
  (fun p=>its.length-p.2.1) (true,0,r,ρ,L2) rfl ?_ ?_ ?_
 ·simp only[hA.same,<- hA']
 ·simp only[hA.same,<- hA']
  exact⟨hps,ho,hrun,Nat.zero_le _,g1,g2⟩
 rintro⟨fst,j,rj,ρj,Lj⟩ ⟨q1,q2,q3,q4,q5,q6⟩
 simp only at q1 q2 q3 q4 q5 q6
 have hHj:Has ⟨(Qh st la b rj).ps,false,Lj⟩ la b rj:=(hA.put rj).push rfl;obtain⟨td,t1,t2⟩:=q1.pen
 have hAl:A.length=(Qh st la b rj).ps.length:=by rw[hAn];simp[ZGU]
 rcases Nat.lt_or_ge j its.length with hlt|hge
 ·obtain⟨it,hit⟩:∃it,its[j]?=some it:=⟨its[j]'hlt,by simp[hlt]⟩
  have hd:its.drop j=it::its.drop (j+1):=by
   rw[List.drop_eq_getElem_cons hlt];rw[jE hlt]at hit;rw[Option.some.inj hit]
  rw[hd]at q3;obtain⟨hs2,e1,hn1,hx1,hk1,hr1⟩:=q3.inv
  have hdj:hs[j]?=some rj.next:=by
   have:=List.getElem?_drop (xs:=hs) (i:=j) (j:=0)
   rw[e1]at this
   simpa using this.symm
  have hd2:hs.drop (j+1)=hs2:=by
   rw[<- List.drop_drop,e1];rfl
  obtain⟨p1,p2,p3⟩:=q1.step hHj q2 hn1 hit hx1 hk1;rw[Znn hle rj _ hAn]at p1 p2
  have hjc:j<cs.length:=by rw[hcl];exact hlt
  have hne:cs≠[]:=fun q=>by rw[q]at hjc;simp at hjc
  rcases t2 with⟨w,_⟩|⟨_,rfl,t3⟩
  ·exact absurd w hne
  obtain⟨k1,_⟩:=q1.key it (jM hit);have hk5':=hk5 _ k1
  have hl4:Lj[4]?=some (.arr 3 0 [.agg [.ptr la (b+5) 0 0 0,.ref A.length tx ver j (cs.length-j),.ptr A.length rx 0 0 0]]):=by
   rw[hAl]at t1;rw[St.get_cur]at t1;rw[hAl];exact (ZBS t1).1
  obtain⟨r2,hr2⟩:∃r2,r2=rj.add (Q4 ρj it.c):=⟨_,rfl⟩;rw[<- hr2]at p1 p2 hr1
  have ho2:AROk r2:=by rw[hr2];exact q2.add hn1 _
  have hAl2:A.length=(Qh st la b r2).ps.length:=by rw[hAn];simp[ZGU]
  obtain⟨L3,hL3⟩:∃L3,L3=(Lj.set it.rx (.arr 5 0 [((ρj it.rx).wr rj.next).av])).set 4 (.arr 3 0 [.agg [.ptr la (b+5) 0 0 0,.ref A.length tx ver (j+1) (cs.length-j-1),.ptr A.length rx 0 0 0]]):=⟨_,rfl⟩;rw[<- hL3]at p1 p2
  have h31:L3[1]?=some (.arr 5 0 [Ro.zero.av]):=by rw[hL3,jS (by omega),jS (by omega)];exact q5
  have h32:L3[2]?=some (.arr 1 j ((hs.take j).map Z1)):=by rw[hL3,jS (by omega),jS (by omega)];exact q6
  have hj2:j=((hs.take j).map Z1).length:=by simp;omega
  have hj3:∀x:AV,((hs.take j).map Z1).length+[x].length<4294967296:=fun x=>by have:=q1.len;simp;omega
  have hinv:∀L4,L4=L3.set 2 (.arr 1 (j+1) ((hs.take j).map Z1++[.int .u64 rj.next]))->PenS ⟨(Qh st la b r2).ps,false,L4⟩ A.length 4 tx ver la b cs its F keys rx (ZO7 ρj it.rx rj.next) (j+1)/\AROk r2/\RunOk (its.drop (j+1)) r2 (ZO7 ρj it.rx rj.next) r' ρ' (hs.drop (j+1))/\j+1<=its.length/\L4[1]?=some (.arr 5 0 [Ro.zero.av])/\L4[2]?=some (.arr 1 (j+1) ((hs.take (j+1)).map Z1)):=by
   rintro L4 rfl
   refine⟨?_,ho2,by rw[hd2];exact hr1,hlt,by rw[jS (by omega)];exact h31,?_⟩
   ·refine p2.frm hAl2 (fun i hi=>jS ?_)
    rcases hi with rfl|⟨hc,rfl⟩|q|⟨p,hp,rfl⟩
    ·omega
    ·have:=hB.tlo hc;omega
    ·have:=hk5 i q;omega
    ·have:=hB.flo p hp;omega
   ·rw[List.getElem?_set_self (List.getElem?_eq_some_iff.1 h32).1,ZW hdj,List.map_append];rfl
  obtain⟨A2,hA2⟩:∃A2,A2=(Qh st la b r2).ps:=⟨_,rfl⟩;obtain⟨A1,hA1⟩:∃A1,A1=(Qh st la b rj).ps:=⟨_,rfl⟩;rw[<- hA1]at p1 hAl ⊢;rw[<- hA2]at p1 hAl2;have hA12:A1.length=A2.length:=hAl.symm.trans hAl2;rw[hAl]at hl4 p1 hinv ⊢
  cases fst
  all_goals simp only
  all_goals repeat'(first|refine ZA Y Y Y p1 ?_|refine ZE ?_|refine ZD ?_|refine ZF Y ?_|refine ZU Y Y ?_|refine Zr Y Y ?_|refine ZB Y ?_|refine ZC ?_|refine Z2 Y Y ?_|refine Qf Y ?_|(refine cm0 Y Y Y ?_ ?_<;>intro _<;>try omega)|refine ZS Y ?_|refine ZG Y ?_|refine QX Y Y Y Y ?_|refine ZV Y hl4 Y Y ?_|refine ZI ?_|refine ZJ ?_)
  all_goals try first|contradiction|omega
  all_goals rw[hA12]
  all_goals repeat'(first|refine ZBT Y Y h32 hj2 Y Y (hj3 _) (by decide) ?_|refine ZF Y ?_|refine ZB Y ?_|refine Zz ?_|refine Z7 ?_)
  all_goals rw[hA12,hA2]at hinv
  all_goals rw[hA2]
  all_goals exact⟨(false,j+1,r2,ZO7 ρj it.rx rj.next,_),⟨rfl,rfl⟩,hinv _ Y,by simp only;omega⟩
 ·obtain rfl:j=its.length:=by omega
  rw[List.drop_length,<- hhl,List.drop_length]at q3;obtain⟨_,rfl,rfl⟩:=q3.nil_inv;rw[<- hhl,List.take_length]at q6;have hRt:=Zrj q1 hcl.symm;rw[hro]at hRt;obtain⟨A1,hA1⟩:∃A1,A1=(Qh st la b r').ps:=⟨_,rfl⟩;rw[<- hA1]at hRt hAl ⊢
  have hl4:∃w,Lj[4]?=some (.arr 3 0 [.agg [.ptr la (b+5) 0 0 0,td,w]])/\(td=.nils\/∃v,td=.ref A.length tx v its.length 0):=by
   rw[hAl,hA1,St.get_cur]at t1;refine⟨_,(ZBS t1).1,?_⟩
   rcases t2 with⟨_,w⟩|⟨_,w,_⟩
   ·exact .inl w
   ·refine .inr ⟨ver,?_⟩
    rw[w,hcl,Nat.sub_self]
  obtain⟨w4,hl4,htd⟩:=hl4
  rw[<- hhl]at *
  have hl1:=(List.getElem?_eq_some_iff.1 q5).1;rw[hAl]at hRt htd ⊢
  rcases htd with rfl|⟨v,rfl⟩
  all_goals cases fst
  all_goals simp only
  all_goals repeat'(first|refine ZA Y Y Y hRt ?_|refine ZE ?_|refine ZD ?_|refine ZF Y ?_|refine ZU Y Y ?_|refine Zr Y Y ?_|refine ZB Y ?_|refine ZC ?_|refine Z2 Y Y ?_|refine Qf Y ?_|refine YF Y ?_|(refine cm0 Y Y Y ?_ ?_<;>intro _<;>try omega)|refine ZG Y ?_|refine ZV Y hl4 Y Y ?_|refine Zo ?_|refine Zc ?_|refine Za Y ?_|refine Zk ?_)
  all_goals try omega
  all_goals refine JB q5 Y Y Y Y Y ?_
  all_goals repeat'(first|refine ZE ?_|refine ZD ?_|refine ZF Y ?_|refine ZB Y ?_|refine ZC ?_|refine ZV Y (List.getElem?_set_self hl1) Y Y ?_)
  all_goals refine JB (List.getElem?_set_self hl1) Y Y Y Y Y ?_
  all_goals rw[List.set_set]
  all_goals repeat'(first|refine ZF Y ?_|refine ZB Y ?_|refine ZC ?_|refine ZP ?_|refine ZL ?_)
  all_goals exact Zno (ro:=ro) hA1 (.inr Y) Y (List.getElem?_set_self hl1) Y ((jS (by omega)).trans q6) (by simp) Y
end Go.Q15
namespace Go.QAbs
variable {a cv td v:AV}{ro:Bool}{e:Env}{f:FuncId}{A:List (Bool × List Blk)}{args caps cls es:LV}{L':List Blk}{ip ix j la mx n ob ox ver w wb:Nat}{st:St}
def TLe(T T':Tab):Prop:=∀f x,T f=some x->T' f=some x
theorem Zdo{T T':Tab}(h:TLe T T'):∀n,Le (Qi T n) (Qi T' n)
 | 0=>fun _ _ _ _ q=>by simp[Qi]at q
 | n+1=>fun f _ _ _ q=>QZ (fun x q=>h f x q) (fun x _ q=>by
  cases x with
  | pf pf=>exact ZKk (Zdo h n) (ZeH (Nat.le_refl n)) q
  | base o=>exact q) q
theorem Zdp{T T':Tab}(h:TLe T T'):Le (S T) (S T'):=fun f a st r q=>by
 obtain⟨n,hn⟩:=S_iff.1 q;exact S_iff.2 ⟨n,Zdo h n _ _ _ _ hn⟩
theorem Znp:∀(A:List (Bool × List Blk)) (r:Bool × List Blk),pop (A++[r])=some (A,r)
 | [],r=>rfl
 | [a],r=>rfl
 | a::b::A,r=>by
  have:=Znp (b::A) r
  rw[lC,lC,pop];rw[lC]at this;rw[this];rfl
theorem Zhp(v:AV)(st:St)(ro:Bool)(L:List Blk):Jq (v,⟨st.ps,ro,L⟩)=some (v,st):=by
 simp only[Jq,Znp,oS,ZMX]
section
variable {k:List Fr}{Q:YD}{e:Env}{st:St}{keep:List Nat}{is:List PI}{d:Nat}{T:Tab}
theorem Znq{st':St}{f:Opd}{args:List Opd}{lv:Nat}{cs vs ws:LV}(hf:Ze e f=some (.func (.yield lv) [] cs))(ha:ZH7 e args=some vs)(hw:Zg (vs++cs)=ws)(hc:S T (yB+lv) ws st=some (v,st'))
 (h:Is (S T) is keep k Q ((d,v)::e) st'):Is (S T) (⟨some d,none,false,.call .norm f args⟩::is) keep k Q e st:=by
 refine Z4 (od:=some d) (v:=v) (st':=st') ?_ h;simp only[Zi,ZH hf,ZAO ha,ZBZ,JE,hw,hc]
theorem Zhq{nt:Nat}{rg:Rng}{st':St}(hl:args.length=rg.ps.length+nt)
 (h:∀A,A=st.ps->Ru (S T) rg.assign [] (fun x e s=>x=.norm/\Ru (S T) rg.body [] (fun x e s=>x=.norm/\s.A=st'.ps) e s) (ZMo rg.ps args (QO 0 (args.drop rg.ps.length))) ⟨A,false,[]⟩):ZA8 (S T) itS nt rg args st=some (.bool true,st'):=by
 obtain⟨x,e1,s1,h1,h2⟩:=(h _ rfl).h;obtain⟨rfl,⟨x,e2,s2,h3,h4⟩⟩:=h2;obtain⟨rfl,h5⟩:=h4;unfold ZA8;rw[if_pos hl]
 have:st.push=⟨st.ps,false,[]⟩:=rfl
 rw[this,h1,oS];simp only[ZPX,h3,oS,Zgt];obtain⟨A,ro,L⟩:=s2
 simp only at h5
 subst h5;exact Zhp _ _ _ _
theorem Znr{OT:Nat->Orc}{nt:Nat}{rg:Rng}{g:FuncId}{first cap:LV}{L:List Blk}{st2:St}(hg:Ze e rg.g=some (.func (.func g) first cap))(hy:g<yB)
 (hc:OT (st.A.length+1) g (Zg (first++[.func (.yield (st.A.length+1)) [] (ZKo nt e)]++cap)) ⟨st.ps,false,[]⟩=some (v,⟨st2.ps,ro,L⟩)):ZSx OT nt rg e st=some (.norm,e,st2):=by
 unfold ZSx;rw[ZH hg];simp only[if_pos hy]
 have:st.push=⟨st.ps,false,[]⟩:=rfl
 rw[this,hc,oS,Zk5,Zhp,oS]
theorem s_rf{T0:Tab}{rf:RF}{r:AV × St}(hT:T f=some (.base (rfO T0 rf)))
 (h:∀A,A=st.ps->Ru (S T0) rf.pre [] (fun x e s=>(x=.ret/\Qj false rf.res (.ret,e,s)=some r)\/(x=.norm/\∃s2,ZSx (fun lv=>S (ZSy T0 lv (ZA8 (S T0) itS rf.nt rf.rng))) rf.nt rf.rng e s=some (.norm,e,s2)/\Ru (S T0) rf.post [] (fun x e s=>Qj false rf.res (x,e,s)=some r) e s2)) (QO 0 args) ⟨A,false,[]⟩):S T f args st=some r:=by
 refine ZWO (o:=rfO T0 rf) hT ?_;obtain⟨x,e1,s1,h1,h2⟩:=(h _ rfl).h;unfold rfO rfG ZKp
 have:st.push=⟨st.ps,false,[]⟩:=rfl
 rw[this,h1,oS]
 rcases h2 with⟨rfl,h3⟩|⟨rfl,s2,h3,⟨x,e3,s3,h5,h6⟩⟩
 ·simp only[JJ,oS];exact h3
 ·simp only[JJ,h3,oS,h5];exact h6
end
theorem ZkO{T:Tab}(hT:∀f x,T f=some x->f<yB)(lv:Nat)(o:LV->St->OS):TLe T (ZSy T lv o):=fun f x hx=>by
 unfold ZSy;rw[if_neg]
 ·exact hx
 ·intro q;exact ZeP (hT f x hx) q
theorem ZkP(T:Tab)(lv:Nat)(o:LV->St->OS)(args:LV)(st:St){r:AV × St}(h:o args st=some r):S (ZSy T lv o) (yB+lv) args st=some r :=
 ZWO (o:=o) (by unfold ZSy;rw[if_pos rfl]) h
end Go.QAbs
namespace Go.Q15
open Go Go.QAbs
variable {r':AR}{a cv td v:AV}{ro:Bool}{e:Env}{f:FuncId}{it:It}{A:List (Bool × List Blk)}{args caps cls es:LV}{L':List Blk}{ip ix j la mx n ob ox ver w wb:Nat}{x:Nd}{st:St}{t:Tr}
def ZBH(N:ZO)(o:Nat):Nd:=(lk N o).getD ⟨0,[],none⟩
theorem Yz{N:ZO}{o:Nat}(h:lk N o=some x):ZBH N o=x:=by unfold ZBH;rw[h];rfl
def Xj(N:ZO):Nat->Nat->List Nat
 | 0,o=>[o]
 | n+1,o=>o::(ZBH N o).ks.flatMap fun k=>Xj N n k.at_
def Zlh(x:Nd):AV:=.agg [.int .i64 x.h,.str x.text,.lit (x.ks.map Kid.av),.int .i64 0]
theorem ZJc{s:St}{l i:Nat}{b:Blk}(h:s.get l i=some b)(more:List (Bool × List Blk))(ro:Bool)(L:List Blk):St.get ⟨s.ps++more,ro,L⟩ l i=some b:=by
 have hl:=St.get_le h;have h1:=ZQ (A:=s.ps) rfl (ro:=ro) (L:=L) h;unfold St.get at h1 ⊢
 have e1:l≠s.ps.length:=by simp;omega
 have e2:l≠(s.ps++more).length:=by simp;omega
 simp only[if_neg e1,if_neg e2]at h1 ⊢
 rw[jL (by simp;omega)]
 exact h1
theorem Rd.more{s:St}{lv:Nat}{N:ZO}(h:Rd s lv ix N)(more:List (Bool × List Blk))(ro:Bool)(L:List Blk):Rd ⟨s.ps++more,ro,L⟩ lv ix N:=by
 obtain⟨a0,a1,im,a3,a4,a5,h1,h2⟩:=h;exact⟨a0,a1,im,a3,a4,a5,ZJc h1 _ _ _,ZJc h2 _ _ _⟩
theorem ZkQ{N:ZO}{h:Nat}(hx:lk N h=some x)(hok:NdOk x)(hh:x.h=n):Xj N n h=h::x.ks.flatMap fun k=>Xj N (n-1) k.at_:=by
 cases n with
 | zero =>
  have:x.ks=[]:=by
   rcases hok with q|⟨m,ks,q⟩
   ·exact q.ks
   ·have:=congrArg Nd.h q.eq;simp only at this;omega
  rw[this];rfl
 | succ n=>rw[Xj,Yz hx];rfl
theorem Zns{N:ZO}(hN:GoodN N):∀(n h:Nat) (x:Nd),lk N h=some x->x.h=n->3*(Xj N n h).length+1<=4 ^ (n+1):=by
 intro n
 induction n with
 | zero=>intro h x hx hh;simp[Xj]
 | succ n ih =>
  intro h x hx hh;obtain⟨hok,hk⟩:=hN h x hx;rw[Xj,Yz hx,List.length_cons]
  have h6:4 ^ (n+1+1)=4*4 ^ (n+1):=by rw[Nat.pow_succ,Nat.mul_comm]
  rw[h6];clear h6
  have hP1:1<=4 ^ (n+1):=Nat.pow_pos (by decide)
  generalize 4 ^ (n+1)=P at *
  have key:∀l:List Kid,(∀k∈l,k∈x.ks)->3*(l.flatMap fun k=>Xj N n k.at_).length+l.length<=l.length*P:=by
   intro l
   induction l with
   | nil=>intro _;simp
   | cons k l ih2 =>
    intro hm
    obtain⟨_,y,y1,y2,_⟩:=hk k (hm k (by simp))
    have h1:=ih k.at_ y y1 (by omega)
    have h2:=ih2 fun q hq=>hm q (by simp[hq])
    rw[List.flatMap_cons,lL,List.length_cons,Nat.add_mul,Nat.one_mul];omega
  have h1:=key x.ks fun _ h=>h
  have h4:=hok.len;have h5:x.ks.length*P<=4*P:=Nat.mul_le_mul_right _ h4
  rcases hok with q|⟨m,ks,q⟩
  ·have:=q.h;omega
  ·have e:=q.eq
   have h7:=q.lo;subst e;simp only[Nd.ks,Option.getD_some]at h1 h4 h5 ⊢;have h8:(4-ks.length)*1<=(4-ks.length)*P:=Nat.mul_le_mul_left _ hP1
   have h9:ks.length*P+(4-ks.length)*P=4*P:=by rw[<- Nat.add_mul];congr 1;omega
   omega
structure NW(σ:List Nat->St)(lv:Nat)(caps:LV)(la b:Nat)(more:List (Bool × List Blk))(ro:Bool)(L:List Blk)(l1 i1 l2 i2 l3 i3:Nat):Prop where
 a:∀v,St.get ⟨(σ v).ps++more,ro,L⟩ l1 i1=some (.arr 1 0 [.ptr la (b+5) 0 0 0])
 y:∀v,St.get ⟨(σ v).ps++more,ro,L⟩ l2 i2=some (.arr 1 0 [.func (.yield lv) [] caps])
 w:∀v,St.get ⟨(σ v).ps++more,ro,L⟩ l3 i3=some (.arr 1 0 [.func (.func Yg) [] [.ptr l1 i1 0 0 0,.ptr l2 i2 0 0 0,.ptr l3 i3 0 0 0]])
theorem NW.push{σ:List Nat->St}{lv:Nat}{b:Nat}{more:List (Bool × List Blk)}{L:List Blk}{l1 i1 l2 i2 l3 i3:Nat}(h:NW σ lv caps la b more ro L l1 i1 l2 i2 l3 i3)(L':List Blk):NW σ lv caps la b (more++[(ro,L)]) false L' l1 i1 l2 i2 l3 i3 :=
 ⟨fun v=>ZQ (st:=⟨(σ v).ps++more,ro,L⟩) (by rw[<- List.append_assoc]) (h.a v),fun v=>ZQ (st:=⟨(σ v).ps++more,ro,L⟩) (by rw[<- List.append_assoc]) (h.y v),fun v=>ZQ (st:=⟨(σ v).ps++more,ro,L⟩) (by rw[<- List.append_assoc]) (h.w v)⟩
theorem Zrm{TY:Tab}(hT:TLe Tb TY){σ:List Nat->St}{N:ZO}(hN:GoodN N){b lv:Nat}(hcw:Zg caps=caps)(hRd:∀v,Rd (σ v) la (b+5) N)(hlen:∀v,(σ v).A.length=(σ []).A.length)
 {B:Nat} (hy:∀v h x more ro L,v.length<B->lk N h=some x->S TY (yB+lv) (.int .u64 (h:Nat)::Zlh x::caps) ⟨(σ v).ps++more,ro,L⟩=some (.bool true,⟨(σ (v++[h])).ps++more,ro,L⟩)) :
 ∀n h x,lk N h=some x->x.h=n->∀v more ro L l1 i1 l2 i2 l3 i3,v.length+(Xj N n h).length<=B->NW σ lv caps la b more ro L l1 i1 l2 i2 l3 i3 ->
  S TY Yg [.int .u64 (h:Nat),.ptr l1 i1 0 0 0,.ptr l2 i2 0 0 0,.ptr l3 i3 0 0 0] ⟨(σ v).ps++more,ro,L⟩=some (.bool true,⟨(σ (v++Xj N n h)).ps++more,ro,L⟩):=by
 intro n
 induction n using Nat.strongRecOn with
 | ind n ih =>
  intro h x hx hh v more ro L l1 i1 l2 i2 l3 i3 hB hw;have hok:=(hN h x hx).1;rw[ZkQ hx hok hh,List.length_cons]at hB;have hkids:=(hN h x hx).2;have hk4:=hok.len
  refine ZB1 (hT _ _ Y) (fun A hA=>?_)
  have hA2:A=(σ v).ps++(more++[(ro,L)]):=by rw[hA,List.append_assoc]
  clear hA;subst hA2
  have hw2:=fun L'=>hw.push L'
  have hG:∀v' L',S TY Qo [.ptr la (b+5) 0 0 0,.int .u64 h] ⟨(σ v').ps++(more++[(ro,L)]),false,L'⟩=some (.tup [.agg [.int .i64 x.h,.str x.text,.lit (x.ks.map Kid.av)],.int .i64 0],⟨(σ v').ps++(more++[(ro,L)]),false,L'⟩):=fun v' L'=>Zdp hT _ _ _ _ (ZhV ((hRd v').more _ _ _) hx hk4)
  have hY:=fun L'=>hy v h x (more++[(ro,L)]) false L' (by omega) hx
  unfold Zlh at hY
  have hwk:Zg ([AV.int .u64 h,.agg [.int .i64 x.h,.str x.text,.lit (x.ks.map Kid.av),.int .i64 0]]++caps)=.int .u64 h::.agg [.int .i64 x.h,.str x.text,.lit (x.ks.map Kid.av),.int .i64 0]::caps:=by
   simp only[lC,lE,Zg,weak,hcw]
  repeat'(first|refine Znq Y Y hwk (hY _) ?_|refine ZE ?_|refine ZD ?_|refine ZF Y ?_|refine ZU Y Y ?_|refine ZV Y Y Y Y ?_|refine QB Y ?_|refine Zl Y Y Y Y ?_|refine Zr Y Y ?_|refine ZB Y ?_|refine ZC ?_|(refine cm0 Y Y Y ?_ ?_<;>intro _<;>try omega)|refine ZG Y ?_|refine JW Y Y ?_|refine Zw Y Y Y ?_|refine Zn Y Y Y ?_|refine Zy Y Y Y Y Y Y ?_|refine Z5 Y ((hw2 _).a v) Y Y ?_|refine Z5 Y ((hw2 _).y v) Y Y ?_|refine ZA Y Y Y (hG _ _) ?_|refine ZI ?_)
  all_goals try contradiction
  have hl2:∀v v',((σ v).ps++(more++[(ro,L)])).length=((σ v').ps++(more++[(ro,L)])).length:=fun v v'=>by
   simp only[lL];rw[hlen v,hlen v'];rfl
  rw[hl2 v (v++[h])];rw[ZkQ hx hok hh]
  repeat'(first|refine ZF Y ?_|refine ZV Y Y Y Y ?_|refine ZB Y ?_|refine ZC ?_|refine QL Y ?_|refine ZJ ?_)
  refine Zt (α:=Nat × List Blk) (fun p=>[(3,.ptr l3 i3 0 0 0),(28,.lit (x.ks.map Kid.av)),(29,.int .i64 x.ks.length),(30,.int .i64 p.1)])
   (fun p=>⟨(σ (v++h::(x.ks.take p.1).flatMap fun k=>Xj N (n-1) k.at_)).ps++(more++[(ro,L)]),false,.arr 3 0 [.agg [.int .i64 x.h,.str x.text,.lit (x.ks.map Kid.av)]]::p.2⟩) (fun p=>p.1<=x.ks.length) (fun p=>x.ks.length-p.1) (0,[]) rfl rfl (Nat.zero_le _) ?_
  rintro⟨i,G⟩ hi
  simp only at hi ⊢
  rcases Nat.lt_or_ge i x.ks.length with hlt|hge
  ·obtain⟨kd,hk'⟩:∃k,x.ks[i]?=some k:=⟨x.ks[i]'(by omega),by simp[hlt]⟩
   obtain⟨_,y,y1,y2,y3⟩:=hkids kd (jM hk')
   have hk1:0<=((i:Nat):Int)/\x.ks[((i:Nat):Int).toNat]?=some kd:=⟨by omega,by rw[show ((i:Nat):Int).toNat=i by omega];exact hk'⟩
   have ihk:=fun v' L' hb=>ih y.h (by omega) kd.at_ y y1 rfl v' _ _ L' l1 i1 l2 i2 l3 i3 hb (hw2 L')
   have hfin:(v++h::(x.ks.take i).flatMap fun k=>Xj N (n-1) k.at_)++Xj N y.h kd.at_=v++h::(x.ks.take (i+1)).flatMap fun k=>Xj N (n-1) k.at_:=by
    rw[ZW hk',List.flatMap_append,List.append_assoc,show n-1=y.h by omega]
    simp
   obtain⟨v1,hv1⟩:∃v1,v1=v++h::(x.ks.take i).flatMap fun k=>Xj N (n-1) k.at_:=⟨_,rfl⟩
   rw[<- hv1]at hfin ⊢
   have hb1:v1.length+(Xj N y.h kd.at_).length<=B:=by
    rw[<- lL,hfin,lL,List.length_cons]
    have h1:(x.ks.flatMap fun k=>Xj N (n-1) k.at_)=(x.ks.take (i+1)).flatMap (fun k=>Xj N (n-1) k.at_)++(x.ks.drop (i+1)).flatMap (fun k=>Xj N (n-1) k.at_):=by
     rw[<- List.flatMap_append,List.take_append_drop]
    have h2:=congrArg List.length h1;rw[lL]at h2;omega
   repeat'(first|refine QY Y Y hk1 (fun _=>rfl) ?_|refine ZA Y Y Y (ihk v1 _ hb1) ?_|refine ZE ?_|refine ZD ?_|refine ZF Y ?_|refine ZU Y Y ?_|refine ZB Y ?_|refine ZC ?_|refine Ql Y Y Y ?_|refine QF Y Y ?_|(refine cm0 Y Y Y ?_ ?_<;>intro _<;>try omega)|refine ZS Y ?_|refine ZG Y ?_|refine JW Y Y ?_|refine Zj Y Y (by omega) ?_|refine Z0 Y Y Y ?_|refine J9 Y Y Y Y Y Y ?_|refine Z5 Y ((hw2 _).w v1) Y Y ?_|refine ZI ?_|refine ZJ ?_|refine Zz ?_|refine Z7 ?_)
   refine⟨(i+1,G++[Blk.arr 4 0 [kd.av]]),⟨rfl,?_⟩,by simp only;omega,by simp only;omega⟩
   rw[hfin];rfl
  ·obtain rfl:i=x.ks.length:=by omega
   rw[List.take_length]
   repeat'(first|refine ZE ?_|refine ZD ?_|refine ZF Y ?_|refine ZB Y ?_|refine ZC ?_|(refine cm0 Y Y Y ?_ ?_<;>intro _<;>try omega)|refine ZG Y ?_|refine ZP ?_|refine Zo ?_|refine ZL ?_|refine Zc ?_|refine Za Y ?_|refine Zk ?_)
   all_goals try omega
   refine Zf (st:=⟨(σ _).ps++more,ro,L⟩) (by rw[<- List.append_assoc]) (.inr rfl) rfl rfl rfl rfl ?_
   rfl
theorem ZJd:∀ {l:List (FuncId × Ent)},(l.all fun p=>decide (p.1<yB))=true->∀f x,Xy l f=some x->f<yB
 | [],_,f,x,h=>by simp[Xy]at h
 | p::l,ha,f,x,h=>by
  simp only[List.all_cons,Bool.and_eq_true,decide_eq_true_eq]at ha;simp only[Xy]at h
  split at h
  ·rename_i e;rw[<- e];exact ha.1
  ·exact ZJd ha.2 f x h
theorem Znt:∀f x,Tb f=some x->f<yB:=ZJd (l:=tl) (by decide +kernel)
def RtOk(N:ZO)(r:Ro):Prop:=r=.zero\/(r.at_≠0/\∃x,lk N r.at_=some x/\NdOk x/\x.h=r.h/\x.mea=r.m)
def Qe(N:ZO)(r:Ro):List Nat:=if r.at_=0 then [] else Xj N r.h r.at_
theorem RtOk.h13{N:ZO}(hN:GoodN N){r:Ro}(hr:RtOk N r):r.h<=13:=by
 rcases hr with rfl|⟨h0,x,h1,h2,h3,h4⟩
 ·decide
 ·have hv:Val N (.keep r):=.kept h0 h1 h2 h3 h4 rfl
  have hb:(Tr.keep r).bytes=r.m.b:=by simp[Tr.keep,Tr.bytes,Tr.bytesO]
  have:=h2.mea_pos
  exact hv.height hN (by rw[hb,<- h4];omega)
theorem ZMR{N:ZO}(hN:GoodN N){r:Ro}(hr:RtOk N r):(Qe N r).length<100000000:=by
 have h13:=hr.h13 hN;unfold Qe
 split
 ·simp
 ·rename_i q
  rcases hr with rfl|⟨h0,x,h1,h2,h3,h4⟩
  ·exact absurd Y q
  ·have:=Zns hN r.h r.at_ x h1 h3
   have h5:4 ^ (r.h+1)<=4 ^ 14:=Nat.pow_le_pow_right (by decide) (by omega)
   have h6:(4:Nat) ^ 14=268435456:=by decide
   omega
def XO(r:Ro):Tr:=if r.at_=0 then .zero else .keep r
theorem ZV7{lv:Nat}{N:ZO}(hr:Rd st lv ix N){r:Ro}(h:RtOk N r):S Tb Yo [.ptr lv ix 0 0 0,r.av] st=some (.tup [(XO r).av,.int .i64 0],st):=by
 unfold XO
 rcases h with rfl|⟨h0,x,h1,h2,h3,h4⟩
 ·rw[if_pos (by rfl)];exact ZlK
 ·rw[if_neg h0];exact ZrW hr h1 h2 h0 h3 h4
theorem ZkR{L:List Blk}{b:Nat}{r:Ro}:S Tb ZAh [.ptr la (b+5) 0 0 0,r.av] ⟨A,false,L⟩=some (.func (.func JZ) [] [.ptr A.length L.length 0 0 0,.ptr A.length (L.length+1) 0 0 0],⟨A,false,L++[.arr 1 0 [.ptr la (b+5) 0 0 0],.arr 5 0 [r.av]]⟩):=by
 refine ZAQ Y ?_
 have e0:(⟨A,false,L⟩:St)=⟨A,false,L++[]⟩:=by rw[lN]
 rw[e0];unfold Ro.av
 repeat'(first|refine Yy Y Y Y Y Y ?_|refine ZE ?_|refine ZD ?_|refine ZF Y ?_|refine ZB Y ?_|refine ZC ?_|refine ZAP Y Y ?_|refine ZP ?_|refine ZL ?_)
 refine (YG (.inr Y) Y Y Y Y).trans ?_;rfl
theorem Zhr{b a1 a2 a3 x1 x2 x3:Nat}(st:St)(h1:a1<b)(h2:a2<b)(h3:a3<b):ZZ QD b st (.func (.func f) [] [.ptr a1 x1 0 0 0,.ptr a2 x2 0 0 0,.ptr a3 x3 0 0 0])=some (.func (.func f) [] [.ptr a1 x1 0 0 0,.ptr a2 x2 0 0 0,.ptr a3 x3 0 0 0],st):=by
 simp only[ZZ,QD,ZgJ,if_true,mapSt,oS,if_pos h1,if_pos h2,if_pos h3,XQ]
theorem Zq8{TY:Tab}(hT:TLe Tb TY){σ:List Nat->St}{N:ZO}(hN:GoodN N){b lv:Nat}(hcw:Zg caps=caps)(hRd:∀v,Rd (σ v) la (b+5) N)(hlen:∀v,(σ v).A.length=(σ []).A.length)
 {B:Nat} (hy:∀v h x more ro L,v.length<B->lk N h=some x->S TY (yB+lv) (.int .u64 (h:Nat)::Zlh x::caps) ⟨(σ v).ps++more,ro,L⟩=some (.bool true,⟨(σ (v++[h])).ps++more,ro,L⟩))
 {r:Ro} (hr:RtOk N r) (hB:(Qe N r).length<=B) {l1 i1 l4 i4:Nat} (ha:∀v,(σ v).get l1 i1=some (.arr 1 0 [.ptr la (b+5) 0 0 0])) (hro:∀v,(σ v).get l4 i4=some (.arr 5 0 [r.av])) :
 S TY JZ [.func (.yield lv) [] caps,.ptr l1 i1 0 0 0,.ptr l4 i4 0 0 0] ⟨(σ []).ps,false,[]⟩=some (.tup [],⟨(σ (Qe N r)).ps,false,[]⟩):=by
 refine ZB1 (hT _ _ Y) (fun A hA=>?_)
 have hA0:A=(σ []).ps++[(false,[])]:=hA
 have g4:∀L,St.get ⟨A,false,L⟩ l4 i4=some (.arr 5 0 [r.av]):=fun L=>by rw[hA0];exact ZJc (hro []) _ _ _
 have l1l:l1<A.length+1:=by have:=St.get_le (ha []);rw[hA0];simp;omega
 unfold Ro.av at g4
 have hNW:∀yv wv,yv=Blk.arr 1 0 [.func (.yield lv) [] caps]->wv=Blk.arr 1 0 [.func (.func Yg) [] [.ptr l1 i1 0 0 0,.ptr A.length 0 0 0 0,.ptr A.length 1 0 0 0]]->NW σ lv caps la b [(false,[])] false [yv,wv] l1 i1 A.length 0 A.length 1:=by
  rintro yv wv rfl rfl
  have hl:∀v,A.length=((σ v).ps++[(false,([]:List Blk))]).length:=fun v=>by rw[hA0];simp[hlen v]
  refine⟨fun v=>ZJc (ha v) _ _ _,fun v=>?_,fun v=>?_⟩
  ·rw[hl v,St.get_cur];rfl
  ·rw[hl v,St.get_cur];rfl
 by_cases h0:r.at_=0
 ·have e:Qe N r=[]:=by unfold Qe;rw[if_pos h0]
  rw[e]
  repeat'(first|refine ZE ?_|refine ZD ?_|refine ZU Y Y ?_|refine ZB Y ?_|refine ZC ?_|(refine cm0 Y Y Y ?_ ?_<;>intro _<;>try omega)|refine ZG Y ?_|refine ZAP Y Y ?_|refine Zn Y Y Y ?_|refine Zy Y Y Y (Zhr _ l1l (Nat.lt_succ_self _) (Nat.lt_succ_self _)) Y Y ?_|refine Z5 Y (g4 _) Y Y ?_|refine ZI ?_|refine ZL ?_)
  all_goals try omega
  refine Zf hA (.inl Y) Y Y Y Y ?_;rfl
 ·have e:Qe N r=Xj N r.h r.at_:=by unfold Qe;rw[if_neg h0]
  rw[e]at hB ⊢
  obtain⟨x,h1,h2,h3,h4⟩:∃x,lk N r.at_=some x/\NdOk x/\x.h=r.h/\x.mea=r.m:=by
   rcases hr with rfl|q
   ·exact absurd Y h0
   ·exact q.2
  have hW:=Zrm hT hN hcw hRd hlen hy r.h r.at_ x h1 h3 [] [(false,[])] false _ l1 i1 A.length 0 A.length 1 (by simpa using hB) (hNW _ _ rfl rfl)
  rw[<- hA0,lE]at hW
  repeat'(first|refine ZA Y Y Y hW ?_|refine ZE ?_|refine ZD ?_|refine ZU Y Y ?_|refine ZV Y Y Y Y ?_|refine ZB Y ?_|refine ZC ?_|(refine cm0 Y Y Y ?_ ?_<;>intro _<;>try omega)|refine ZS Y ?_|refine ZAP Y Y ?_|refine Zn Y Y Y ?_|refine Zy Y Y Y (Zhr _ l1l (Nat.lt_succ_self _) (Nat.lt_succ_self _)) Y Y ?_|refine Z5 Y (g4 _) Y Y ?_|refine ZL ?_)
  all_goals try omega
  refine Zf (st:=⟨(σ _).ps,false,[]⟩) Y (.inl Y) Y Y Y Y ?_;rfl
noncomputable def t1:List (FuncId × Ent):=(Xq,.base (rfO Tb p_rope_Check))::tl
noncomputable def T1:Tab:=Xy t1
theorem le1:TLe Tb T1:=fun g y hg=>by
 unfold T1 t1;simp only[Xy];rw[if_neg]
 ·exact hg
 ·intro e;subst e
  have:Xy tl Xq=none:=by decide +kernel
  unfold Tb at hg;rw[this]at hg;simp at hg
theorem Zf8{b:Nat}{N:ZO}(hN:GoodN N)(hR:Rd st la (b+5) N){r:Ro}(hr:RtOk N r):S T1 Xq [.ptr la (b+5) 0 0 0,r.av] st=some (.int .i64 0,st):=by
 refine s_rf (rf:=p_rope_Check) Y (fun A hA=>?_)
 have hK:=fun L=>ZV7 (hR.push hA (ro:=false) (L:=L)) hr
 have hNd:=fun L=>ZkR (A:=A) (L:=L) (la:=la) (b:=b) (r:=r)
 obtain⟨LF,hLF⟩:∃LF:List Blk,LF=[.arr 5 0 [r.av],.arr 7 0 [(XO r).av],.arr 1 0 [.int .i64 0],.arr 1 0 [.ptr la (b+5) 0 0 0],.arr 5 0 [r.av]]:=⟨_,rfl⟩
 have hseq:=fun (caps:LV) (hcw:Zg caps=caps) (o:LV->St->OS) hy=>Zq8 (TY:=ZSy Tb (A.length+1) o) (ZkO Znt _ _) (σ:=fun _=>⟨A,false,LF⟩) hN (lv:=A.length+1) (caps:=caps) hcw (fun _=>hR.push hA) (fun _=>rfl) (B:=(Qe N r).length) hy hr (Nat.le_refl _) (l1:=A.length) (i1:=3) (l4:=A.length) (i4:=4) (fun _=>by rw[St.get_cur,hLF];rfl) (fun _=>by rw[St.get_cur,hLF];rfl)
 unfold Ro.av at *
 repeat'(first|refine ZE ?_|refine ZD ?_|refine ZF Y ?_|refine ZV Y Y Y Y ?_|refine Zr Y Y ?_|refine ZB Y ?_|refine ZC ?_|(refine cm0 Y Y Y ?_ ?_<;>intro _<;>try omega)|refine ZG Y ?_|refine Zn Y Y Y ?_|refine Zy Y Y Y Y Y Y ?_|refine Zy Y Y Y (QQ _ _ _) (Qx _ _) Y ?_|refine ZA Y Y (by first|rfl|(simp only[lE,lN,lC,Zg,ZX,ZY];first|done|rfl)) (hK _) ?_|refine ZA Y Y (by first|rfl|(simp only[lE,lN,lC,Zg,ZX,ZY];first|done|rfl)) (hNd _) ?_|refine ZI ?_|refine ZL ?_)
 all_goals try contradiction
 have hS:=hseq (ZKo 30 [(7,.ptr A.length 2 0 0 0),(21,.func (.func JZ) [] [.ptr A.length 3 0 0 0,.ptr A.length 4 0 0 0]),(23,.any)]) rfl (ZA8 (S Tb) itS p_rope_Check.nt p_rope_Check.rng) (fun v h x more ro L _ hx=>ZkP _ _ _ _ _ (Zhq rfl (fun A' hA'=>by
  unfold Zlh
  repeat'(first|refine ZD ?_|refine ZB Y ?_|refine Zn Y Y Y ?_|refine Zy Y Y Y Y Y Y ?_|refine ZL ?_)
  all_goals try omega
  refine⟨rfl,?_⟩
  repeat'(first|refine ZE ?_|refine ZD ?_|refine ZU Y Y ?_|refine ZV Y Y Y Y ?_|refine ZB Y ?_|refine ZC ?_|(refine cm0 Y Y Y ?_ ?_<;>intro _<;>try omega)|refine ZG Y ?_|refine ZI ?_|refine ZJ ?_|refine ZL ?_|refine Zz ?_)
  all_goals try contradiction
  exact⟨rfl,hA'⟩)))
 rw[hLF]at hS
 refine .inr ⟨rfl,_,Znr (g:=JZ) Y (by decide) hS,?_⟩
 repeat'(first|refine ZE ?_|refine ZD ?_|refine ZF Y ?_|refine ZV Y Y Y Y ?_|refine ZB Y ?_|refine ZC ?_|refine ZI ?_|refine ZP ?_|refine ZL ?_)
 refine Zf hA (by simp) Y Y Y Y ?_
 rfl
end Go.Q15
namespace Go.QAbs
variable {a cv td v:AV}{ro:Bool}{e:Env}{f:FuncId}{A:List (Bool × List Blk)}{args caps cls es:LV}{L':List Blk}{ip ix j la mx n ob ox ver w wb:Nat}{st:St}
theorem ZCj{s:St}{l i:Nat}{b:Blk}(h:s.get l i=some b)(more:List (Bool × List Blk))(ro:Bool)(L:List Blk):St.get ⟨s.ps++more,ro,L⟩ l i=some b:=by
 have hl:=St.get_le h;have h1:=ZQ (A:=s.ps) rfl (ro:=ro) (L:=L) h;unfold St.get at h1 ⊢
 have e1:l≠s.ps.length:=by simp;omega
 have e2:l≠(s.ps++more).length:=by simp;omega
 simp only[if_neg e1,if_neg e2]at h1 ⊢
 rw[jL (by simp;omega)]
 exact h1
theorem ZkS{s:St}{lv:Nat}(hl:lv<=s.A.length)(h:s.wr lv)(more:List (Bool × List Blk))(ro:Bool)(L:List Blk):St.wr ⟨s.ps++more,ro,L⟩ lv:=by
 have h1:=Xn (A:=s.ps) rfl hl h (ro:=ro) (L:=L);unfold St.wr at h1 ⊢
 have e1:lv≠s.ps.length:=by simp;omega
 have e2:lv≠(s.ps++more).length:=by simp;omega
 simp only[if_neg e1,if_neg e2]at h1 ⊢
 rw[jL (by simp;omega)]
 exact h1
theorem Zhs{s:St}{lv:Nat}{b:Blk}(hl:lv<=s.A.length)(more:List (Bool × List Blk))(ro:Bool)(L:List Blk):St.upd ⟨s.ps++more,ro,L⟩ lv ix b=⟨(s.upd lv ix b).ps++more,ro,L⟩:=by
 have h1:=Jl (A:=s.ps) (ro:=ro) (L:=L) rfl hl (ix:=ix) (b:=b);unfold St.upd at h1 ⊢
 have e1:lv≠s.ps.length:=by simp;omega
 have e2:lv≠(s.ps++more).length:=by simp;omega
 simp only[if_neg e1,if_neg e2]at h1 ⊢;simp only[St.mk.injEq,and_true]at h1 ⊢
 rw[jL (by simp;omega),List.set_append_left _ _ (by simp;omega),h1]
theorem ZSG:∀ {ks:List (Nat × Nat)} {s:St} {bs:List Blk} {more:List (Bool × List Blk)} {ro:Bool} {L:List Blk},(∀k∈ks,k.1<=s.A.length)->Ji ⟨s.ps++more,ro,L⟩ ks bs=⟨(Ji s ks bs).ps++more,ro,L⟩
 | [],_,bs,_,_,_,_=>by cases bs<;>rfl
 | _::_,_,[],_,_,_,_=>rfl
 | k::ks,s,b::bs,more,ro,L,hk=>by
  rw[Ji,Zhs (hk k (by simp)),ZSG (s:=s.upd k.1 k.2 b) (fun q hq=>by rw[St.upd_A];exact hk q (by simp[hq]))]
  rfl
theorem Cl.more{s:St}{ks:List (Nat × Nat)}{bs:List Blk}(h:Cl s ks bs)(more:List (Bool × List Blk))(ro:Bool)(L:List Blk):Cl ⟨s.ps++more,ro,L⟩ ks bs :=
 ⟨h.nd,h.len,fun k hk=>ZkS (h.le k hk) (h.wr k hk) _ _ _,fun j lv ix b h1 h2=>ZCj (h.get j lv ix b h1 h2) _ _ _⟩
end Go.QAbs
namespace Go.Q15
open Go Go.QAbs
variable {r':AR}{a cv td v:AV}{ro:Bool}{e:Env}{f:FuncId}{it:It}{A:List (Bool × List Blk)}{args caps cls es:LV}{L':List Blk}{ip ix j la mx n ob ox ver w wb:Nat}{x:Nd}{st:St}{t:Tr}
theorem Znu:∀f x,T1 f=some x->f<yB:=ZJd (l:=t1) (by decide +kernel)
noncomputable def t3:List (FuncId × Ent):=(Zan,.base (rfO T1 ZKt))::(ZB6,.base (rfO T1 p_rope_Nodes))::t1
noncomputable def T3:Tab:=Xy t3
theorem ZGX{l:List (FuncId × Ent)}{x:Ent}(h:Xy l f=none):TLe (Xy l) (Xy ((f,x)::l)):=fun g y hg=>by
 simp only[Xy];rw[if_neg]
 ·exact hg
 ·intro e;subst e;rw[h]at hg;simp at hg
theorem le13:TLe T1 T3:=fun g y hg=>ZGX (l:=(ZB6,.base (rfO T1 p_rope_Nodes))::t1) (by decide +kernel) g y (ZGX (l:=t1) (by decide +kernel) g y hg)
theorem le3:TLe Tb T3:=fun g y hg=>le13 g y (le1 g y hg)
theorem up3{r:AV × St}(h:S Tb f args st=some r):S T3 f args st=some r:=Zdp le3 _ _ _ _ h
theorem up1{r:AV × St}(h:S Tb f args st=some r):S T1 f args st=some r:=Zdp le1 _ _ _ _ h
theorem up13{r:AV × St}(h:S T1 f args st=some r):S T3 f args st=some r:=Zdp le13 _ _ _ _ h
theorem Zli(l:List B8):Q8 1 (l.map AV.str)=true:=by
 induction l with
 | nil=>rfl
 | cons b s ih=>rw[jC,Q8,List.all_cons];exact Bool.and_eq_true_iff.2 ⟨rfl,ih⟩
def Jv(w:List Nat)(h:Nat):List Nat:=if h∈w then w else w++[h]
def Ja(v:List Nat):List Nat:=v.foldl Jv []
theorem ZjP(v:List Nat)(h:Nat):Ja (v++[h])=Jv (Ja v) h:=by unfold Ja;rw[List.foldl_append];rfl
theorem Zlj{w:List Nat}{h x:Nat}:x∈Jv w h↔x∈w\/x=h:=by
 unfold Jv
 split
 ·rename_i q;exact⟨.inl,fun p=>p.elim id fun e=>e▸q⟩
 ·simp
theorem ZDZ:∀v:List Nat,(Ja v).Nodup/\(∀x,x∈Ja v↔x∈v)/\(Ja v).length<=v.length:=by
 intro v
 have key:∀(v w:List Nat),w.Nodup->(v.foldl Jv w).Nodup/\(∀x,x∈v.foldl Jv w↔x∈w\/x∈v)/\(v.foldl Jv w).length<=w.length+v.length:=by
  intro v
  induction v with
  | nil=>intro w h;exact⟨h,by simp,by simp⟩
  | cons a v ih =>
   intro w h
   have h1:(Jv w a).Nodup:=by
    unfold Jv;split
    ·exact h
    ·rename_i q
     rw[List.nodup_append]
     refine⟨h,by simp,fun x hx y hy=>?_⟩
     rw[List.mem_singleton]at hy;intro e;rw[e,hy]at hx;exact q hx
   obtain⟨i1,i2,i3⟩:=ih (Jv w a) h1
   refine⟨i1,fun x=>?_,?_⟩
   ·rw[List.foldl_cons,i2,Zlj,List.mem_cons,or_assoc]
   ·have:(Jv w a).length<=w.length+1:=by unfold Jv;split<;>simp
    rw[List.foldl_cons,List.length_cons];omega
 have:=key v [] List.nodup_nil
 exact⟨this.1,fun x=>by have h:=this.2.1 x;simpa [Ja] using h,by have h:=this.2.2;simpa [Ja] using h⟩
def ndL(A:List (Bool × List Blk))(la b:Nat)(r:Ro)(w:List Nat):List Blk:=[.arr 5 0 [r.av],.arr 1 w.length (w.map Z1),.arr 1 0 [.ref A.length 1 w.length 0 w.length],.map (YW w),.arr 1 0 [.map A.length 3],.arr 1 0 [.ptr la (b+5) 0 0 0],.arr 5 0 [r.av]]
def ndF(A:List (Bool × List Blk))(la b:Nat)(r:Ro)(v:List Nat):St:=⟨A,false,ndL A la b r (Ja v)⟩
def ndK(A:List (Bool × List Blk)):List (Nat × Nat):=[(A.length,1),(A.length,2),(A.length,3)]
def ndB(A:List (Bool × List Blk))(w:List Nat):List Blk:=[.arr 1 w.length (w.map Z1),.arr 1 0 [.ref A.length 1 w.length 0 w.length],.map (YW w)]
theorem Zsk(A:List (Bool × List Blk))(la b:Nat)(r:Ro)(w:List Nat):Cl ⟨A,false,ndL A la b r w⟩ (ndK A) (ndB A w):=by
 refine⟨by simp[ndK],rfl,fun k hk=>?_,fun j lv ix b h1 h2=>?_⟩
 ·simp only[ndK,List.mem_cons,List.not_mem_nil,or_false]at hk
  rcases hk with rfl|rfl|rfl<;>simp[St.wr]
 ·match j,h1,h2 with
  | 0,h1,h2=>obtain⟨rfl,rfl⟩:=Prod.mk.inj (Option.some.inj h1);obtain rfl:=Option.some.inj h2;exact St.get_cur ..
  | 1,h1,h2=>obtain⟨rfl,rfl⟩:=Prod.mk.inj (Option.some.inj h1);obtain rfl:=Option.some.inj h2;exact St.get_cur ..
  | 2,h1,h2=>obtain⟨rfl,rfl⟩:=Prod.mk.inj (Option.some.inj h1);obtain rfl:=Option.some.inj h2;exact St.get_cur ..
  | n+3,h1,h2=>simp[ndK]at h1
theorem Zrn(A:List (Bool × List Blk))(la b:Nat)(r:Ro)(w u:List Nat):Ji ⟨A,false,ndL A la b r w⟩ (ndK A) (ndB A u)=⟨A,false,ndL A la b r u⟩:=by
 simp[Ji,St.upd,ndL,ndK,ndB]
theorem Znv{N:ZO}{b:Nat}{r:Ro}(hc7:∃rest,caps=.any::.any::.any::.any::.any::.any::.any::.ptr A.length 2 0 0 0::.ptr A.length 4 0 0 0::rest/\rest.length=24)(v:List Nat)(hlim:(Ja v).length<4000000000)(h:Nat)(x:Nd)(more:List (Bool × List Blk))(ro:Bool)(L:List Blk)(hx:lk N h=some x):
 ZA8 (S T1) itS p_rope_Nodes.nt p_rope_Nodes.rng (.int .u64 (h:Nat)::Zlh x::caps) ⟨(ndF A la b r v).ps++more,ro,L⟩=some (.bool true,⟨(ndF A la b r (v++[h])).ps++more,ro,L⟩):=by
 obtain⟨rest,rfl,hrl⟩:=hc7;unfold ndF;rw[ZjP]
 generalize Ja v=w at *
 have hwl:(w.map Z1).length=w.length:=List.length_map ..
 have H:=(Zsk A la b r w).more more ro L
 refine Zhq (by simp[hrl];rfl) (fun A' hA'=>?_)
 rw[<- H.same]at hA'
 have g2:=fun L'=>H.old hA' rfl rfl (ro:=false) (L:=L') (j:=1) rfl rfl
 have g3:=fun L'=>H.old hA' rfl rfl (ro:=false) (L:=L') (j:=2) rfl rfl
 have g4:∀L',St.get ⟨A',false,L'⟩ A.length 4=some (.arr 1 0 [.map A.length 3]):=fun L'=>by
  rw[hA',H.same];exact ZQ Y (ZJc (s:=⟨A,false,ndL A la b r w⟩) (St.get_cur ..) more ro L)
 have hlk:=fun L'=>ZD7 (g3 L') h
 unfold Zlh
 by_cases hm:h∈w
 ·simp only[decide_eq_true hm]at hlk
  repeat'(first|refine ZD ?_|refine ZF Y ?_|refine ZB Y ?_|refine ZL ?_)
  refine⟨rfl,?_⟩
  repeat'(first|refine ZE ?_|refine ZD ?_|refine ZF Y ?_|refine ZB Y ?_|refine ZC ?_|refine ZG Y ?_|refine JW Y Y ?_|refine Z5 Y (g4 _) Y Y ?_|refine YZ Y Y (hlk _) ?_|refine ZI ?_|refine ZJ ?_|refine ZL ?_|refine Zz ?_)
  all_goals try contradiction
  refine⟨rfl,hA'.trans ?_⟩;rw[H.same];unfold Jv;rw[if_pos hm]
 ·simp only[decide_eq_false hm]at hlk
  repeat'(first|refine ZD ?_|refine ZF Y ?_|refine ZB Y ?_|refine ZL ?_)
  refine⟨rfl,?_⟩
  repeat'(first|refine ZE ?_|refine ZD ?_|refine ZF Y ?_|refine ZB Y ?_|refine ZC ?_|refine ZS Y ?_|refine JW Y Y ?_|refine Z5 Y (g4 _) Y Y ?_|refine YZ Y Y (hlk _) ?_|refine ZJ ?_)
  all_goals try contradiction
  refine Zm4 H hA' Y Y (j:=2) Y Y Y Y Y Y Y (ZO8 h w hm) (fun A2 hA2 hl2=>?_)
  have k2:=fun L'=>H.old hA2 rfl rfl (ro:=false) (L:=L') (j:=1) rfl rfl
  repeat'(first|refine Z5 Y (k2 _) Y Y ?_|refine ZD ?_|refine ZF Y ?_|refine ZB Y ?_|refine ZC ?_|refine QX Y Y Y Y ?_)
  refine Zj7 (es:=w.map Z1) (ys:=[.int .u64 h]) H hA2 Y Y (j:=0) Y Y (by rw[hwl];rfl) rfl rfl rfl rfl (by rw[hwl,List.length_singleton];omega) (by decide) (fun A3 hA3 hl3=>?_)
  refine Zm3 H hA3 Y Y (j:=1) Y Y Y Y Y (Jc _ (Nat.lt_succ_self _)) Y (fun A4 hA4 hl4=>?_)
  repeat'(first|refine ZB Y ?_|refine ZL ?_|refine Zz ?_)
  refine⟨rfl,hA4.trans ?_⟩;have e:=Zrn A la b r w (w++[h]);unfold Jv;rw[if_neg hm,<- e]
  rw[<- ZSG (fun k hk=>by simp only[ndK,List.mem_cons,List.not_mem_nil,or_false]at hk;rcases hk with rfl|rfl|rfl<;>exact Nat.le_refl _)]
  simp only[ndB,lL,List.length_singleton,List.length_map,List.map_append];rfl
theorem ZkT{b:Nat}{N:ZO}(hN:GoodN N)(hR:Rd st la (b+5) N){r:Ro}(hr:RtOk N r):S T3 ZB6 [.ptr la (b+5) 0 0 0,r.av] st=some (.tup [.lit ((Ja (Qe N r)).map Z1),.int .i64 0],st):=by
 refine s_rf (rf:=p_rope_Nodes) Y (fun A hA=>?_)
 have hK:=fun L=>Zf8 hN (hR.push hA (ro:=false) (L:=L)) hr
 have hNd:=fun L=>up1 (ZkR (A:=A) (L:=L) (la:=la) (b:=b) (r:=r))
 have hlen:=ZMR hN hr
 have hseq:=fun (caps:LV) (hcw:Zg caps=caps) (o:LV->St->OS) hy=>Zq8 (TY:=ZSy T1 (A.length+1) o) (fun g y hg=>ZkO Znu _ _ g y (le1 g y hg)) (σ:=ndF A la b r) hN (lv:=A.length+1) (caps:=caps) hcw (fun _=>hR.push hA) (fun _=>rfl) (B:=100000000) hy hr (by omega) (l1:=A.length) (i1:=5) (l4:=A.length) (i4:=6) (fun _=>St.get_cur ..) (fun _=>St.get_cur ..)
 have hS:=hseq (ZKo 33 [(7,.ptr A.length 2 0 0 0),(8,.ptr A.length 4 0 0 0),(19,.func (.func JZ) [] [.ptr A.length 5 0 0 0,.ptr A.length 6 0 0 0]),(20,.any)]) rfl (ZA8 (S T1) itS p_rope_Nodes.nt p_rope_Nodes.rng) (fun v h x more ro L hv hx=>ZkP _ _ _ _ _ (Znv ⟨_,rfl,rfl⟩ v (by have:=(ZDZ v).2.2;omega) h x more ro L hx))
 unfold ndF at hS
 generalize hes:Ja (Qe N r)=l at *
 have e0:ndL A la b r (Ja [])=ndL A la b r []:=rfl;rw[e0]at hS;unfold ndL at hS
 unfold Ro.av at *
 repeat'(first|refine ZE ?_|refine ZD ?_|refine ZF Y ?_|refine ZV Y Y Y Y ?_|refine ZB Y ?_|refine ZC ?_|(refine cm0 Y Y Y ?_ ?_<;>intro _<;>try omega)|refine ZG Y ?_|refine Zn Y Y Y ?_|refine ZEa Y ?_|refine ZEb Y ?_|refine ZA Y Y Y (hK _) ?_|refine ZI ?_)
 all_goals try contradiction
 refine Zy Y Y Y (by simp only[ZZ,QD,if_pos (Nat.lt_succ_self _)]) Y Y ?_
 repeat'(first|refine ZE ?_|refine ZD ?_|refine ZF Y ?_|refine ZV Y Y Y Y ?_|refine ZB Y ?_|refine ZC ?_|refine ZA Y Y Y (hNd _) ?_|refine ZI ?_|refine ZL ?_)
 refine .inr ⟨rfl,_,Znr (g:=JZ) Y (by decide) hS,?_⟩
 repeat'(first|refine ZE ?_|refine ZD ?_|refine ZF Y ?_|refine ZV Y Y Y Y ?_|refine ZB Y ?_|refine ZC ?_|refine ZI ?_|refine ZP ?_|refine ZL ?_)
 exact ZH8 hA (.inr Y) Y Y (by simp) (fun v hv=>by obtain⟨x,_,rfl⟩:=List.mem_map.1 hv;rfl) rfl rfl
noncomputable def tv:List (FuncId × Ent):=t3
noncomputable def TV:Tab:=Xy tv
def J0(l:List (Nat × Int)):List (AV × AV):=l.map fun p=>(AV.int .u64 p.1,AV.int .i64 p.2)
def ZGY(h:Nat):List (Nat × Int)->List (Nat × Int)
 | []=>[(h,1)]
 | (k,n)::l=>if k=h then (k,n+1)::l else (k,n)::ZGY h l
def Yn(h:Nat):List (Nat × Int)->Int
 | []=>0
 | (k,n)::l=>if k=h then n else Yn h l
def fC(h:Nat):List (Nat × Int)->Option AV
 | []=>none
 | (k,n)::l=>if k=h then some (.int .i64 n) else fC h l
theorem Zht(o:Nat):∀l,ZAV (.int .u64 o) (J0 l)=some (fC o l)
 | []=>rfl
 | (k,n)::l=>by
  rw[J0,jC,ZAV]
  show (Option.bind (if IntKind.u64=IntKind.u64 then some ((o:Int) == (k:Int)) else none) fun b=>if b=true then some (some (AV.int .i64 n)) else ZAV (.int .u64 o) (J0 l))=_
  rw[if_pos rfl,oS,Zht o l,fC]
  by_cases h:k=o
  ·subst h;simp
  ·rw[if_neg h,if_neg (by simp;omega)]
theorem Znw(o:Nat):∀l,(fC o l).getD (.int .i64 0)=.int .i64 (Yn o l)
 | []=>rfl
 | (k,n)::l=>by
  unfold fC Yn
  split
  ·rfl
  ·exact Znw o l
theorem Zf9(o:Nat):∀l,ZBV (.int .u64 o) (.int .i64 (Yn o l+1)) (J0 l)=some (J0 (ZGY o l))
 | []=>rfl
 | (k,n)::l=>by
  rw[J0,jC,ZBV]
  show (Option.bind (if IntKind.u64=IntKind.u64 then some ((o:Int) == (k:Int)) else none) fun b=>if b=true then some ((AV.int .u64 o,AV.int .i64 (Yn o ((k,n)::l)+1))::J0 l) else (ZBV (.int .u64 o) (.int .i64 (Yn o ((k,n)::l)+1)) (J0 l)).map fun r=>(AV.int .u64 k,AV.int .i64 n)::r)=_
  rw[if_pos rfl,oS]
  by_cases h:k=o
  ·subst h
   rw[if_pos (by simp),Yn,if_pos rfl,ZGY,if_pos rfl];rfl
  ·rw[if_neg (by simp;omega),Yn,if_neg h,Zf9 o l,ZGY,if_neg h];rfl
theorem ZkU{lv:Nat}{l:List (Nat × Int)}(hg:st.get lv mx=some (.map (J0 l)))(o:Nat):lookV st 0 (.int .i64 0) false (.int .u64 o) (.map lv mx)=some (.int .i64 (Yn o l)):=by
 simp only[lookV,Zcz,hg,ZAe,oS,J2,if_true,Zht,Option.map_some,oJ];rw[<- Znw]
 cases fC o l<;>rfl
theorem Zhu(o h:Nat):∀l,Yn o (ZGY h l)=Yn o l+if o=h then 1 else 0
 | []=>by simp only[ZGY,Yn];by_cases e:h=o<;>simp[e,Ne.symm]
 | (k,n)::l=>by
  unfold ZGY
  by_cases e:k=h
  ·subst e
   rw[if_pos rfl];unfold Yn
   by_cases e2:k=o
   ·subst e2;simp
   ·rw[if_neg e2,if_neg e2,if_neg (fun q=>e2 q.symm)];simp
  ·rw[if_neg e]
   show (if k=o then n else Yn o (ZGY h l))=(if k=o then n else Yn o l)+_
   by_cases e2:k=o
   ·subst e2;rw[if_pos rfl,if_pos rfl,if_neg e];simp
   ·rw[if_neg e2,if_neg e2];exact Zhu o h l
def ZBI(c:List (Nat × Int))(l:List Nat):List (Nat × Int):=l.foldl (fun c h=>ZGY h c) c
theorem ZJ2(o:Nat):∀(l:List Nat) (c:List (Nat × Int)),Yn o (ZBI c l)=Yn o c+l.count o
 | [],c=>by simp[ZBI]
 | h::l,c=>by
  show Yn o (ZBI (ZGY h c) l)=_
  rw[ZJ2 o l,Zhu,List.count_cons]
  by_cases e:o=h
  ·subst e;simp;omega
  ·rw[if_neg e,if_neg (by simpa using fun q=>e q.symm)];simp
theorem Zdq(c:List (Nat × Int))(l:List Nat)(h:Nat):ZBI c (l++[h])=ZGY h (ZBI c l):=by simp[ZBI]
theorem Zlk{O:Orc}{k:List Fr}{Q:YD}{L:List Blk}{keep:List Nat}{is:List QAbs.PI}{kk:Nat}{x i v:Opd}{ki w:AV}{es es':List (AV × AV)}
 (hx:Ze e x=some (.map A.length ix)) (hi:Ze e i=some ki) (hki:J2 kk ki=true) (hv:Ze e v=some w) (hs:ZZ QD (A.length+1) ⟨A,false,L⟩ w=some (w,⟨A,false,L⟩)) (hb:L[ix]?=some (.map es)) (hp:ZBV ki w es=some es')
 (h:Is O is keep k Q e ⟨A,false,L.set ix (.map es')⟩):Is O (⟨none,none,false,.mupd kk x i v⟩::is) keep k Q e ⟨A,false,L⟩:=by
 have hlt:=Zq hb
 have hg:St.get ⟨A,false,L⟩ A.length ix=some (.map es):=by simp only[St.get,if_true,hb];rfl
 have hput:St.put ⟨A,false,L⟩ A.length ix (.map es')=some ⟨A,false,L.set ix (.map es')⟩:=by simp only[St.put,if_true,jB,if_false,if_pos hlt]
 refine Z4 (od:=none) (v:=.undef) (st':=⟨A,false,L.set ix (.map es')⟩) ?_ h;simp only[Zi,evalPO,ZH hx,ZH hi,ZH hv,ZHy,hki,if_true,hs,oS,ZKj,hg,ZAe,hp,hput,ZBW]
theorem leV:TLe T3 TV:=fun g y hg=>hg
theorem upV{r:AV × St}(h:S T3 f args st=some r):S TV f args st=some r:=h
noncomputable def tw:List (FuncId × Ent):=tv
noncomputable def TW:Tab:=Xy tw
theorem leW:TLe TV TW:=fun g y hg=>hg
theorem upW{r:AV × St}(h:S TV f args st=some r):S TW f args st=some r:=h
theorem s_pr{T T0:Tab}{X:Run}{pre:PC}{rs:List RV}{r:AV × St}(hT:T f=some (.base (fnO (ZGs (S T0) itS X pre) rs)))
 (h:∀A,A=st.ps->Ru (S T0) pre [] (fun x e s=>(x=.ret/\Qj false rs (.ret,e,s)=some r)\/(x=.norm/\∃x2 e2 s2,X e s=some (x2,e2,s2)/\Qj false rs (x2,e2,s2)=some r)) (QO 0 args) ⟨A,false,[]⟩):S T f args st=some r:=by
 refine ZWO (o:=fnO (ZGs (S T0) itS X pre) rs) hT ?_;obtain⟨x,e1,s1,h1,h2⟩:=(h _ rfl).h;unfold fnO ZGs
 have:st.push=⟨st.ps,false,[]⟩:=rfl
 rw[this,h1,oS]
 rcases h2 with⟨rfl,h3⟩|⟨rfl,x2,e2,s2,h3,h4⟩
 ·simp only[JJ,oS];exact h3
 ·simp only[JJ,h3,oS];exact h4
def ZMS(p:Int->Bool)(c:List (Nat × Int)):List Nat:=(c.filter fun q=>p q.2).map Prod.fst
def toH(h:Nat):H64:=⟨h % 18446744073709551616,Nat.mod_lt _ (by decide)⟩
theorem ZkV(p:Int->Bool):∀c:List (Nat × Int),(∀q∈c,q.1<18446744073709551616)->Zfu p (J0 c)=some ((ZMS p c).map toH)
 | [],_=>rfl
 | (k,n)::c,hc=>by
  have h0:k<18446744073709551616:=hc (k,n) (by simp)
  show Zfu p ((AV.int .u64 (k:Int),AV.int .i64 n)::J0 c)=_
  unfold Zfu
  rw[dif_pos ⟨by omega,by omega⟩,ZkV p c fun q hq=>hc q (by simp[hq])]
  unfold ZMS;rw[List.filter_cons]
  have e:toH k=⟨((k:Nat):Int).toNat,by omega⟩:=by
   apply Fin.ext
   show k % 18446744073709551616=((k:Nat):Int).toNat
   rw[Int.toNat_natCast];omega
  by_cases hp:p n=true
  ·simp only[hp,if_true,Option.map_some,jC,e]
  ·simp[hp]
theorem Zhv(h:Nat):∀c:List (Nat × Int),(c.map Prod.fst).Nodup->((ZGY h c).map Prod.fst).Nodup/\∀x,x∈(ZGY h c).map Prod.fst↔x=h\/x∈c.map Prod.fst
 | [],_=>by simp[ZGY]
 | (k,n)::c,hc=>by
  simp only[jC,List.nodup_cons]at hc;unfold ZGY
  split
  ·rename_i e
   subst e;simp only[jC,List.nodup_cons,List.mem_cons]
   exact⟨hc,fun x=>by constructor<;>intro q<;>simp_all⟩
  ·rename_i e
   obtain⟨i1,i2⟩:=Zhv h c hc.2;simp only[jC,List.nodup_cons,List.mem_cons]
   refine⟨⟨fun q=>?_,i1⟩,fun x=>?_⟩
   ·rcases (i2 k).1 q with q|q
    ·exact e q
    ·exact hc.1 q
   ·rw[i2];constructor<;>(rintro (q|q|q)<;>simp[q])
theorem ZJ3:∀(l:List Nat) (c:List (Nat × Int)),(c.map Prod.fst).Nodup->((ZBI c l).map Prod.fst).Nodup/\∀x,x∈(ZBI c l).map Prod.fst↔x∈c.map Prod.fst\/x∈l
 | [],c,hc=>⟨hc,by simp[ZBI]⟩
 | h::l,c,hc=>by
  obtain⟨i1,i2⟩:=Zhv h c hc;obtain⟨j1,j2⟩:=ZJ3 l (ZGY h c) i1
  refine⟨j1,fun x=>?_⟩
  show x∈(ZBI (ZGY h c) l).map Prod.fst↔_
  rw[j2,i2,List.mem_cons]
  constructor
  ·rintro ((q|q)|q)<;>simp[q]
  ·rintro (q|q|q)<;>simp[q]
theorem ZgA:∀ {c:List (Nat × Int)} {k:Nat} {n:Int},(c.map Prod.fst).Nodup->(k,n)∈c->Yn k c=n
 | (k0,n0)::c,k,n,hn,h=>by
  simp only[jC,List.nodup_cons]at hn;unfold Yn
  rcases List.mem_cons.1 h with q|q
  ·simp only[jP]at q
   rw[if_pos q.1.symm];exact q.2.symm
  ·rw[if_neg (fun e=>hn.1 (by rw[e];exact List.mem_map.2 ⟨(k,n),q,rfl⟩))]
   exact ZgA hn.2 q
theorem Znx{p:Int->Bool}{c:List (Nat × Int)}(hn:(c.map Prod.fst).Nodup){x:Nat}:x∈ZMS p c↔x∈c.map Prod.fst/\p (Yn x c)=true:=by
 unfold ZMS;rw[List.mem_map]
 constructor
 ·rintro⟨⟨k,n⟩,h,rfl⟩
  rw[List.mem_filter]at h
  exact⟨List.mem_map.2 ⟨_,h.1,rfl⟩,by rw[ZgA hn h.1];exact h.2⟩
 ·rintro⟨h1,h2⟩
  obtain⟨⟨k,n⟩,h,rfl⟩:=List.mem_map.1 h1;refine⟨(k,n),List.mem_filter.2 ⟨h,?_⟩,rfl⟩;rw[ZgA hn h]at h2;exact h2
theorem ZaJ{p:Int->Bool}{c:List (Nat × Int)}(hn:(c.map Prod.fst).Nodup):(ZMS p c).Nodup:=by
 unfold ZMS
 exact ((List.filter_sublist (p:=fun q=>p q.2) (l:=c)).map Prod.fst).nodup hn
def Zcu(l:List Nat):List Nat:=(srtH (l.map toH)).map Fin.val
theorem Zqc(l:List H64):l.map hAV=(l.map Fin.val).map Z1:=by rw[List.map_map];rfl
theorem ZV8{l:List Nat}(hl:∀x∈l,x<18446744073709551616)(hn:l.Nodup):(l.map toH).Nodup:=by
 induction l with
 | nil=>simp
 | cons a l ih =>
  rw[List.nodup_cons]at hn;rw[jC,List.nodup_cons]
  refine⟨fun h=>?_,ih (fun x hx=>hl x (by simp[hx])) hn.2⟩
  obtain⟨b,hb,e⟩:=List.mem_map.1 h
  have h1:=hl a (by simp)
  have h2:=hl b (by simp[hb])
  have e2:b % 18446744073709551616=a % 18446744073709551616:=congrArg Fin.val e
  have:b=a:=by omega
  subst this;exact hn.1 hb
theorem Zhw:∀l:List Tr,(∀t∈l,4*(t.cnt:Int)+4<=t.bytes)->4*(Tr.cntL l:Int)+4*l.length<=Tr.bytesL l
 | [],_=>by simp[Tr.cntL,Tr.bytesL]
 | t::l,h=>by
  have h1:=h t (by simp)
  have h2:=Zhw l fun u hu=>h u (by simp[hu])
  simp only[Tr.cntL,Tr.bytesL,List.length_cons];omega
theorem Zny{N:ZO}(hN:GoodN N)(hv:Val N t):(t.cnt:Int)<=t.bytes/\(Big t->4*(t.cnt:Int)+4<=t.bytes):=by
 have hsz:=hv.size hN;have hps:=hv.pos.2
 induction hv with
 | @kept o h m k x h0 hx hok hh hm hk =>
  have ec:(Tr.mk o h m [] k).cnt=0:=by rw[Tr.cnt,Tr.cntO_getD,hk,if_neg h0];rfl
  have hl:h<=16:=by
   rcases hok with q|⟨n,ks,q⟩
   ·rw[<- hh,q.h];omega
   ·have:=q.n15;have e:=q.eq;subst e;simp only at hh;omega
  rw[ec]
  refine⟨by omega,fun q=>?_⟩
  have h1:=hsz q;have h2:=(ZE3 hl).1;simp only[Tr.h]at h1;omega
 | @leaf s k h1 h2 hk =>
  have ec:(Tr.mk 0 0 .zero s k).cnt=1:=by rw[Tr.cnt,Tr.cntO_getD,hk];rfl
  rw[ec]
  refine⟨by omega,fun q=>?_⟩
  have:=q rfl
  omega
 | @inner h l hh h2 h4 hl hb hv ih =>
  have ec:(Tr.mk 0 (h+1) .zero [] (some l)).cnt=Tr.cntL l+1:=by rw[Tr.cnt,Tr.cntO];simp;omega
  have eb:(Tr.mk 0 (h+1) .zero [] (some l)).bytes=Tr.bytesL l:=by rw[Tr.bytes,Tr.bytesO];simp[Mea.zero]
  have:=Zhw l fun u hu=>(ih u hu ((hv u hu).size hN) (hv u hu).pos.2).2 (fun q=>hb u hu (by rw[<- hl u hu];exact q))
  rw[ec,eb]
  exact⟨by omega,fun _=>by omega⟩
theorem Zsl{N:ZO}(hN:GoodN N)(hv:VE N t):(nw t:Int)<=t.bytes:=by
 rcases hv with he|hv
 ·unfold nw;rw[if_pos ⟨he.old,he.h,he.text⟩,he.bytes];decide
 ·rw[ZSF hv];exact (Zny hN hv).1
theorem ZjQ{L:List Blk}{b:Nat}{r:AR}(hA:HasR ⟨A,false,L⟩ la b r)(hN:r.n<=r.blk.length)(h16:r.states.length<=16384)(h6:r.n<65536)(hg:GoodN r.nodes)(hv:VE r.nodes t)(hb:t.bytes<=65536)(hn:r.n<nw t):
 S Tb Xr [.ptr la (b+5) 0 0 0,t.av] ⟨A,false,L⟩=some (.tup [.nilptr,.int .i64 6],⟨A,false,L++[.arr 7 0 [t.av]]⟩):=by
 have hv:Val r.nodes t:=by
  rcases hv with he|hv
  ·unfold nw at hn;rw[if_pos ⟨he.old,he.h,he.text⟩]at hn;omega
  ·exact hv
 rw[ZSF hv]at hn;have hcb:=(Zny hg hv).1
 have hCk:=fun T=>ZR6 (hA.app T).rd hv hb
 have hNw:=fun st=>Zq6 hv (by omega) st
 have hSt:=fun T=>ZV5 (hA.app T) hN h16 h6
 unfold AR.statsAV at hSt;refine ZAQ Y ?_
 have e0:(⟨A,false,L⟩:St)=⟨A,false,L++[]⟩:=by rw[lN]
 rw[e0]
 repeat'(first|refine Yy Y (Z6 _) (QJ _) Y Y ?_|refine ZAU Y Y Y (Zp _) ?_|refine ZE ?_|refine ZD ?_|refine ZF Y ?_|refine ZB Y ?_|refine ZC ?_|refine ZWu (agg:=false) Y Y ?_|(refine cm0 Y Y Y ?_ ?_<;>intro _<;>try omega)|(refine cm0 Y Y Y ?_ ?_<;>intro _<;>try omega)|refine ZS Y ?_|refine ZG Y ?_|refine ZA Y Y (by first|rfl|(simp only[lE,lN,lC,Zg,ZX,ZY];first|done|rfl)) (hCk _) ?_|refine ZA Y Y (by first|rfl|(simp only[lE,lN,lC,Zg,ZX,ZY];first|done|rfl)) (hNw _) ?_|refine ZA Y Y (by first|rfl|(simp only[lE,lN,lC,Zg,ZX,ZY];first|done|rfl)) (hSt _) ?_|refine ZI ?_|refine ZP ?_|refine ZL ?_|refine Zb ?_)
 all_goals try omega
 refine (YG (.inr Y) Y Y Y Y).trans ?_;rfl
theorem ZjR{b:Nat}{r:AR}(hA:Has st la b r)(ho:AROk r)(hg:GoodN r.nodes)(hv:VE r.nodes t)(hb:t.bytes<=65536)(hn:r.n<nw t):
 S Tb Xo [.ptr la (b+5) 0 0 0,t.av] st=some (.tup [Ro.zero.av,.lit [],.int .i64 6],st):=by
 refine ZB1 Y (fun A hA'=>?_)
 have hS:=fun L=>ZjQ (L:=L) (hA.push hA').r ho.nb ho.n16 (by have:=ho.nn;have:=ho.n16;omega) hg hv hb hn
 repeat'(first|refine ZE ?_|refine ZD ?_|refine ZF Y ?_|refine Zr Y Y ?_|refine ZB Y ?_|refine ZC ?_|(refine cm0 Y Y Y ?_ ?_<;>intro _<;>try omega)|refine ZS Y ?_|refine Zw Y Y Y ?_|refine Zn Y Y Y ?_|refine Zy Y Y Y Y Y Y ?_|refine ZBM Y ?_|refine ZV Y Y Y (Zp _) ?_|refine Z0 Y (Z6 _) (QJ _) ?_|refine ZA Y Y (by first|rfl|(simp only[lE,lN,lC,Zg,ZX,ZY];first|done|rfl)) (hS _) ?_|refine ZP ?_|refine ZL ?_|refine Zb ?_)
 all_goals try first|contradiction|omega
 exact Zno (ro:=.zero) (l:=[]) hA' (.inr Y) Y Y Y Y Y Y
theorem ZaK{x:B8}{l:List B8}{i:Nat}(h:l[i]?=some x):(l.take (i+1)).flatten=(l.take i).flatten++x:=by
 rw[List.take_add_one,h];simp
theorem ZO9(l:List B8)(i:Nat):(l.take i).flatten.length<=l.flatten.length:=by
 have:=congrArg List.length (congrArg List.flatten (List.take_append_drop i l))
 rw[List.flatten_append,lL]at this;omega
theorem PI.ok{r:AR}(ho:AROk r)(hg:GoodN r.nodes)(hv:VE r.nodes t)(hb:t.bytes<=65536)(hn:nw t<=r.n){its:List It}{rx:Nat}{ρ:Nat->Ro}(h:PI t its rx ρ):
 WrB r (nw t) (wrV t r).1 (wrV t r).2.2/\(IsEmpty t/\(wrV t r).2.1=.zero\/Val r.nodes t/\WrOk r.nodes t (wrV t r).1 (wrV t r).2.1):=by
 rcases h with⟨h1,_,h2⟩|⟨⟨M,hM⟩,R,h1,h2,h3⟩
 ·have e:nw t=0:=by unfold nw;rw[if_pos ⟨h1.old,h1.h,h1.text⟩]
  rw[Zdn h1,e];exact⟨.refl ho hg,.inl ⟨h1,rfl⟩⟩
 ·rcases hv with hv|hv
  ·exact absurd hv hM.not_empty
  ·rw[ZkM hv,ZSF hv]
   rw[ZSF hv]at hn;obtain⟨ρ',a1,a2,a3,a4,a5⟩:=exec_ok hg hv hb r ho hg (.refl _) hn rx its R ρ h1 h2 h3;exact⟨a4,.inr ⟨hv,a5⟩⟩
theorem Zsm{b:Nat}{r:AR}(hA:Has st la b r)(ho:AROk r)(hg:GoodN r.nodes)(hv:VE r.nodes t)(hb:t.bytes<=65536)(hn:nw t<=r.n):
 WrB r (nw t) (wrV t r).1 (wrV t r).2.2/\(IsEmpty t/\(wrV t r).2.1=.zero\/Val r.nodes t/\WrOk r.nodes t (wrV t r).1 (wrV t r).2.1):=by
 obtain⟨L2,tx,ver,cs,its,F,keys,rx,ρ,hS,hB⟩:=ZkN (L:=[]) (hA.push rfl).r ho.nb ho.n16 (by have:=ho.nn;have:=ho.n16;omega) hv hb hn
 exact hB.pi.ok ho hg hv hb hn
def ZaL(N:ZO)(r:Ro):B8:=if r.at_=0 then [] else Qb N r.h r.at_
structure Rt(N:ZO)(r:Ro)(s:B8):Prop where
 rt:RtOk N r
 tx:ZaL N r=s
theorem RtOk.ext{N M:ZO}(hE:Ext N M){r:Ro}(h:RtOk N r):RtOk M r:=h.imp id fun ⟨h0,x,h1,h2⟩=>⟨h0,x,hE _ _ h1,h2⟩
theorem Rt.ext{N M:ZO}(hN:GoodN N)(hE:Ext N M){r:Ro}{s:B8}(h:Rt N r s):Rt M r s:=by
 refine⟨h.rt.ext hE,?_⟩;rw[<- h.tx];unfold ZaL
 split
 ·rfl
 ·rename_i q
  rcases h.rt with e|⟨_,x,h1,_,h2,_⟩
  ·rw[e]at q;exact absurd Y q
  ·exact ZJ1 hN hE _ _ x h1 h2
theorem Rt.zero(N:ZO):Rt N .zero []:=⟨.inl rfl,rfl⟩
theorem Rt.m{N:ZO}(hN:GoodN N){r:Ro}{s:B8}(h:Rt N r s):r.m=Yw s:=by
 obtain⟨h,rfl⟩:=h;unfold ZaL
 rcases h with rfl|⟨h0,x,h1,h2,h3,h4⟩
 ·rfl
 ·rw[if_neg h0,ZCh hN _ _ x h1 h3,h4]
theorem Rt.wr{r:AR}(ho:AROk r){N:ZO}{ro:Ro}(h:WrOk N t r ro):Rt r.nodes ro (t.txt N):=by
 obtain⟨y,h1,h2,h3,h4⟩:=h.live;have h0:=(ho.hnd h1).2
 refine⟨.inr ⟨h0,y,h1,h2,by rw[h3,h.rh],by rw[h4,h.rm]⟩,?_⟩
 unfold ZaL;rw[if_neg h0,h.rh,h.txt]
theorem Rt.keep{N:ZO}{r:Ro}{s:B8}(h:Rt N r s):VE N (XO r)/\(XO r).txt N=s:=by
 obtain⟨h,rfl⟩:=h;unfold ZaL XO
 rcases h with rfl|⟨h0,x,h1,h2,h3,h4⟩
 ·rw[if_pos (by rfl),if_pos (by rfl)];exact⟨.inl zero_empty,rfl⟩
 ·rw[if_neg h0,if_neg h0]
  exact⟨.inr (.kept h0 h1 h2 h3 h4 Y),by rw[Tr.keep,Tr.txt,if_neg h0];simp[Tr.txtO]⟩
theorem Rt.b{N:ZO}(hN:GoodN N){r:Ro}{s:B8}(h:Rt N r s):(XO r).bytes=s.length/\r.m.b=s.length:=by
 have h1:=h.keep;have h2:=h1.1.len hN;rw[h1.2]at h2
 exact⟨h2.symm,by rw[h.m hN];rfl⟩
theorem Zdr{b:Nat}{r:AR}(hA:Has st la b r)(ho:AROk r)(hg:GoodN r.nodes)(hv:VE r.nodes t)(hb:t.bytes<=65536)(hn:nw t<=r.n):
 WrB r (nw t) (wrV t r).1 (wrV t r).2.2/\Rt (wrV t r).1.nodes (wrV t r).2.1 (t.txt r.nodes):=by
 obtain⟨h1,h2⟩:=Zsm hA ho hg hv hb hn;refine⟨h1,?_⟩
 rcases h2 with⟨he,h2⟩|⟨hv,h2⟩
 ·rw[h2,he.txt];exact .zero _
 ·exact .wr h1.ok h2
theorem ZBU(A:List (Bool × List Blk))(L0 T:List Blk)(r:AR):Has ⟨A,false,L0++(arB A.length L0.length r++T)⟩ A.length L0.length r:=by
 have h:∀i b,(arB A.length L0.length r++T)[i]?=some b->vis (some b)=some b->St.get ⟨A,false,L0++(arB A.length L0.length r++T)⟩ A.length (L0.length+i)=some b:=by
  intro i b hb hv;rw[St.get_cur,QS,hb,hv]
 exact⟨by simp[St.wr],h 0 _ Y Y,h 1 _ Y Y,h 2 _ Y Y,h 3 _ Y Y,h 4 _ Y Y,h 5 _ Y Y⟩
theorem ZPA(A:List (Bool × List Blk))(L0 T:List Blk)(r r':AR):Qh ⟨A,false,L0++(arB A.length L0.length r++T)⟩ A.length L0.length r'=⟨A,false,L0++(arB A.length L0.length r'++T)⟩:=by
 have h:∀(X:List Blk) (i:Nat) (b:Blk),St.upd ⟨A,false,L0++X⟩ A.length (L0.length+i) b=⟨A,false,L0++X.set i b⟩:=fun X i b=>by
  unfold St.upd;simp only[if_true,ZGR]
 have h0:∀(X:List Blk) (b:Blk),St.upd ⟨A,false,L0++X⟩ A.length L0.length b=⟨A,false,L0++X.set 0 b⟩:=fun X b=>h X 0 b
 simp only[Qh,arK,arB,Ji,h,h0];rfl
theorem Zro{L:List Blk}{x:Ex}{c4 c5 j4 w4 v4:Nat}{ro:Ro}{z:Int}(hA:A=st.A++[(st.ro,st.L)])(hx:x=.norm\/x=.ret)(h4:J7 e c4=some (.ptr A.length j4 v4 0 0))(hg4:L[j4]?=some (.arr w4 v4 [ro.av]))
 (h6:J7 e c5=some (.int .i64 z)):Qj false [.c c4 true 5,.s c5] (x,e,⟨A,false,L⟩)=some (.tup [ro.av,.int .i64 z],st):=by
 refine ZEE (v:=.tup [ro.av,.int .i64 z]) hA hx ?_ (L':=L) Y Y
 have h1:ZBp ⟨A,false,L⟩ e (.c c4 true 5)=some ro.av:=by
  simp only[ZBp,QM h4,loadP,St.get_cur,hg4,vis,ZES,if_true,List.getElem?_cons_zero,oS];rfl
 simp only[QT,ZEC,h1,oS];simp only[ZBp,QM h6,oS,Option.map_some,ZGd]
theorem ZkW{b:Nat}{r:AR}(hA:Has st la b r)(ho:AROk r)(hg:GoodN r.nodes)(s:B8)(hs:s.length<=65536)(hn:nw (Qt s)<=r.n):
 S Tb ZCy [.ptr la (b+5) 0 0 0,.str s] st=some (.tup [(wrV (Qt s) r).2.1.av,.int .i64 0],Qh st la b (wrV (Qt s) r).1):=by
 obtain⟨b1,b2,b3⟩:=Xw hg hs
 refine ZB1 Y (fun A hA'=>?_)
 have hB:=fun L=>Zf0 hg s hs ⟨A,false,L⟩
 have hle:=hA.le
 have hW:=fun L=>Zf7 (st:=⟨A,false,L⟩) (hA.push hA') ho hg b1 (by rw[b3];omega) hn
 simp only[ZBG hA' hle]at hW
 generalize (wrV (Qt s) r).1=r' at *
 generalize (wrV (Qt s) r).2.1=ro at *
 repeat'(first|refine ZE ?_|refine ZD ?_|refine ZF Y ?_|refine Zr Y Y ?_|refine ZB Y ?_|refine ZC ?_|(refine cm0 Y Y Y ?_ ?_<;>intro _<;>try omega)|refine ZG Y ?_|refine JA Y Y Y Y ?_|refine Zn Y Y Y ?_|refine ZV Y Y Y (Zp _) ?_|refine Zy Y Y Y (QQ _ _ _) (Qx _ _) Y ?_|refine ZA Y Y (by first|rfl|(simp only[lE,lN,lC,Zg,ZX,ZY];first|done|rfl)) (hB _) ?_|refine ZI ?_)
 all_goals try first|contradiction|omega
 obtain⟨A2,hA2⟩:∃A2,A2=(Qh st la b r').ps:=⟨_,rfl⟩;simp only[<- hA2]at hW
 have hAl:A.length=A2.length:=by rw[hA',hA2];simp[St.ps,ZGU]
 refine ZA Y Y (Zsh Y _) (hW _) ?_;rw[hAl]
 repeat'(first|refine JB Y Y Y Y Y Y ?_|refine ZV Y Y Y Y ?_|refine ZE ?_|refine ZD ?_|refine ZF Y ?_|refine Zr Y Y ?_|refine ZB Y ?_|refine ZC ?_|refine Zn Y Y Y ?_|refine ZP ?_|refine ZL ?_)
 exact Zro hA2 (.inr Y) Y Y Y
theorem ZaM(n g:Nat)(hn:n<=16384)(hg:1<=g/\g<=4294967295):AROk (Q7 n g):=by
 have hb:∀i,i<n->(Q7 n g).blk[i]?=some ((n:Int)-1-i):=fun i hi=>by simp[Q7,hi]
 refine⟨by simp[Q7],by simp[Q7];exact hn,by simp[Q7],by simp[Q7],fun i hi=>⟨n-1-i,?_,?_,?_⟩,fun i j hi hj q=>?_,fun s hs=>⟨1,?_,by omega,?_⟩,?_,fun h x hx=>?_,?_,?_,?_⟩
 ·have hi':i<n:=hi
  rw[hb i hi'];congr 1
  show (n:Int)-1-i=((n-1-i:Nat):Int)
  omega
 ·have hi':i<n:=hi
  show n-1-i<(List.replicate n (0:Int)).length
  rw[List.length_replicate];omega
 ·have hi':i<n:=hi
  show (List.replicate n (0:Int))[n-1-i]?=some 0
  rw[List.getElem?_replicate,if_pos (by omega)]
 ·have hi':i<n:=hi
  have hj':j<n:=hj;rw[hb i hi',hb j hj']at q
  have:=Option.some.inj q
  omega
 ·have hs':s<n:=by simpa [Q7] using hs
  simp[Q7,hs']
 ·show ((1:Nat):Int)<=(g:Int);omega
 ·show (g:Int)<=_;omega
 ·simp[Q7,lk]at hx
 ·simp[Q7]
 ·simp[Q7]
 ·simp[Q7];omega
noncomputable def ZaN(p:AR × List Ro)(s:B8):AR × List Ro:=((wrV (Qt s) p.1).1,p.2++[(wrV (Qt s) p.1).2.1])
noncomputable def Yl(texts:List B8):AR × List Ro:=texts.foldl ZaN (Q7 1500 3,[])
theorem ZGZ(l:List B8)(s:B8):Yl (l++[s])=ZaN (Yl l) s:=by unfold Yl;rw[List.foldl_append];rfl
def Rts(N:ZO)(ros:List Ro)(ss:List B8):Prop:=ros.length=ss.length/\∀(i:Nat) (ro:Ro) (s:B8),ros[i]?=some ro->ss[i]?=some s->Rt N ro s
theorem Rts.ext{N M:ZO}(hN:GoodN N)(hE:Ext N M){ros:List Ro}{ss:List B8}(h:Rts N ros ss):Rts M ros ss:=⟨h.1,fun i ro s h1 h2=>(h.2 i ro s h1 h2).ext hN hE⟩
theorem Rts.snoc{N:ZO}{ros:List Ro}{ss:List B8}(h:Rts N ros ss){ro:Ro}{s:B8}(g:Rt N ro s):Rts N (ros++[ro]) (ss++[s]):=by
 refine⟨by simp[h.1],fun i r t h1 h2=>?_⟩
 rcases Nat.lt_or_ge i ros.length with q|q
 ·rw[jL q]at h1
  rw[jL (by rw[<- h.1];exact q)]at h2
  exact h.2 i r t h1 h2
 ·rw[List.getElem?_append_right q]at h1
  rw[List.getElem?_append_right (by rw[<- h.1];exact q)]at h2
  rw[<- h.1]at h2
  match hk:i-ros.length with
  | 0=>rw[hk]at h1 h2;obtain rfl:=Option.some.inj h1;obtain rfl:=Option.some.inj h2;exact g
  | n+1=>rw[hk]at h1;simp at h1
structure LaidOk(texts:List B8)(p:AR × List Ro):Prop where
 ok:AROk p.1
 good:GoodN p.1.nodes
 rts:Rts p.1.nodes p.2 texts
 room:1500<=p.1.n+texts.flatten.length
theorem ZPB{l:List B8}{p:AR × List Ro}{s:B8}(h:LaidOk l p)(hl:(l++[s]).flatten.length<=900):nw (Qt s)<=p.1.n/\LaidOk (l++[s]) (ZaN p s):=by
 have hfl:(l++[s]).flatten.length=l.flatten.length+s.length:=by simp
 have hr:=h.room
 have hs:s.length<=65536:=by omega
 obtain⟨b1,b2,b3⟩:=Xw h.good hs;have hw:=Zsl h.good b1;rw[b3]at hw
 have hn:nw (Qt s)<=p.1.n:=by omega
 obtain⟨w1,w2⟩:=Zdr (ZBU [] [] [] p.1) h.ok h.good b1 (by rw[b3];omega) hn
 rw[b2]at w2;refine⟨hn,w1.ok,w1.good,(h.rts.ext h.good w1.ext).snoc w2,?_⟩
 have:=w1.n
 show 1500<=(wrV (Qt s) p.1).1.n+_
 omega
theorem ZPC(texts:List B8)(hl:texts.flatten.length<=900):∀i,i<=texts.length->LaidOk (texts.take i) (Yl (texts.take i)):=by
 intro i
 induction i with
 | zero=>intro _;exact⟨ZaM 1500 3 (by omega) (by omega),ZOz,⟨rfl,fun i ro s h=>by simp[Yl]at h⟩,by simp[Yl,Q7]⟩
 | succ i ih =>
  intro hi
  obtain⟨s,hs⟩:∃s,texts[i]?=some s:=⟨texts[i]'(by omega),by simp[show i<texts.length by omega]⟩
  rw[ZW hs,ZGZ]
  refine (ZPB (ih (by omega)) ?_).2
  rw[<- ZW hs]
  have:=ZO9 texts (i+1)
  omega
def ZEP(l:List Ro):List Blk:=l.map fun r=>Blk.arr 5 0 [r.av]
theorem Zrp(texts:List B8)(hl:texts.flatten.length<=900)(h4:texts.length<=4)(A:List (Bool × List Blk))(L0:List Blk):
 S Tb Yt [.lit (texts.map .str)] ⟨A,false,L0⟩=some (.tup [.ptr A.length (L0.length+5) 0 0 0,.ref A.length (L0.length+6) texts.length 0 texts.length,.bool true],⟨A,false,L0++(arB A.length L0.length (Yl texts).1++(.arr 5 texts.length ((Yl texts).2.map Ro.av)::ZEP (Yl texts).2))⟩):=by
 refine ZAQ Y ?_
 have hN:=ZkF 1500 3 (by omega) (by omega) A L0
 repeat'(first|refine ZE7 ?_|refine ZE ?_|refine ZD ?_|refine ZF Y ?_|refine QB Y ?_|refine Zl Y Y Y Y ?_|refine Zr Y Y ?_|refine ZB Y ?_|refine ZC ?_|(refine cm0 Y Y Y ?_ ?_<;>intro _<;>try omega)|refine ZG Y ?_|refine JA Y Y Y Y ?_|refine ZA Y Y Y (hN) ?_|refine ZI ?_|refine ZJ ?_)
 all_goals try contradiction
 have e7:(L0++[(Q7 1500 3).b0,(Q7 1500 3).b1,(Q7 1500 3).b2,(Q7 1500 3).b3 A.length L0.length,(Q7 1500 3).b4,(Q7 1500 3).b5 A.length L0.length]).length=L0.length+6:=by simp
 rw[e7]
 refine Zt (α:=Nat) (fun i=>[(0,.lit (texts.map .str)),(5,.ptr A.length (L0.length+5) 0 0 0),(7,.ref A.length (L0.length+6) i 0 i),(8,.int .i64 i)])
  (fun i=>⟨A,false,L0++(arB A.length L0.length (Yl (texts.take i)).1++(.arr 5 i ((Yl (texts.take i)).2.map Ro.av)::ZEP (Yl (texts.take i)).2))⟩) (fun i=>i<=texts.length) (fun i=>texts.length-i) 0 rfl ?_ (by simp) ?_
 ·rw[List.append_assoc];rfl
 rintro i hi
 have hok:=ZPC texts hl i hi
 rcases Nat.lt_or_ge i texts.length with hlt|hge
 ·obtain⟨s,hs⟩:∃s,texts[i]?=some s:=⟨texts[i]'(by omega),by simp[show i<texts.length by omega]⟩
  have hfl:=ZO9 texts (i+1)
  have htk:(texts.take i++[s]).flatten.length<=900:=by rw[<- ZW hs];omega
  obtain⟨hn,hok2⟩:=ZPB hok htk
  have h1:=ZkW (ZBU A L0 (.arr 5 i ((Yl (texts.take i)).2.map Ro.av)::ZEP (Yl (texts.take i)).2) (Yl (texts.take i)).1) hok.ok hok.good s (by simp at htk;omega) hn
  rw[ZPA]at h1
  have hV:Yl (texts.take (i+1))=ZaN (Yl (texts.take i)) s:=by rw[ZW hs,ZGZ]
  unfold ZaN at hV;have hri:=hok.rts.1;rw[List.length_take,Nat.min_eq_left hi]at hri
  generalize Yl (texts.take i)=V at *
  generalize wrV (Qt s) V.1=W at *
  have hx:0<=((i:Nat):Int)/\texts[((i:Nat):Int).toNat]?=some s:=⟨by omega,by rw[show ((i:Nat):Int).toNat=i by omega];exact hs⟩
  obtain⟨L1,hL1⟩:∃L1,L1=L0++(arB A.length L0.length W.1++Blk.arr 5 i (List.map Ro.av V.2)::ZEP V.2):=⟨_,rfl⟩;rw[<- hL1]at h1
  have g6:L1[L0.length+6]?=some (.arr 5 i (V.2.map Ro.av)):=by rw[hL1,QS];rfl
  repeat'(first|refine QY Y Y hx (fun _=>rfl) ?_|refine ZE ?_|refine ZD ?_|refine ZF Y ?_|refine Zr Y Y ?_|refine ZB Y ?_|refine ZC ?_|refine QL Y ?_|refine Ql Y Y Y ?_|refine QF Y Y ?_|(refine cm0 Y Y Y ?_ ?_<;>intro _<;>try omega)|refine ZS Y ?_|refine ZG Y ?_|refine Z0 Y Y Y ?_|refine J9 Y Y Y Y Y Y ?_|refine QX Y Y Y Y ?_|refine ZA Y Y Y (h1) ?_|refine ZI ?_|refine ZJ ?_)
  all_goals try first|contradiction|omega
  have h6l:L0.length+6<L1.length:=(List.getElem?_eq_some_iff.1 g6).1
  refine ZBT (es:=V.2.map Ro.av) (ys:=[W.2.1.av]) Y Y (ZAu g6) (by rw[List.length_map];omega) rfl rfl (by rw[List.length_map,List.length_singleton];omega) (by decide) ?_
  repeat'(first|refine ZD ?_|refine ZF Y ?_|refine ZB Y ?_|refine ZC ?_|refine Zj Y Y (by omega) ?_|refine Zz ?_|refine Z7 ?_)
  refine⟨i+1,⟨rfl,?_⟩,by omega,by omega⟩
  simp only[hV];rw[hL1,List.append_assoc,ZGR]
  have e8:((V.2++[W.2.1]).map Ro.av)=V.2.map Ro.av++[W.2.1.av]:=by rw[List.map_append];rfl
  have e9:ZEP (V.2++[W.2.1])=ZEP V.2++[.arr 5 0 [W.2.1.av]]:=by unfold ZEP;rw[List.map_append];rfl
  rw[e8,e9];rfl
 ·obtain rfl:i=texts.length:=by omega
  rw[List.take_length]
  repeat'(first|refine ZE ?_|refine ZD ?_|refine ZF Y ?_|refine ZB Y ?_|refine ZC ?_|refine QL Y ?_|(refine cm0 Y Y Y ?_ ?_<;>intro _<;>try omega)|refine ZG Y ?_|refine ZP ?_|refine Zo ?_|refine ZL ?_|refine Zc ?_|refine Za Y ?_|refine Zk ?_)
  refine (YG (.inr Y) Y Y Y Y).trans ?_;rfl
def Q0(x n:Int):Int:=(x % 18446744073709551616) % (n+1)
theorem Qc{x n:Int}(h:0<=n):0<=Q0 x n/\Q0 x n<=n:=by
 unfold Q0
 have:=Int.emod_nonneg (x % 18446744073709551616) (show n+1≠0 by omega)
 have:=Int.emod_lt_of_pos (x % 18446744073709551616) (show 0<n+1 by omega)
 omega
theorem Zq9(x:Int):IntKind.u64.wrap x=x % 18446744073709551616:=by
 have e1:IntKind.u64.signed=false:=rfl;have e2:IntKind.u64.bits=64:=rfl;simp only[IntKind.wrap,e1,e2,Bool.false_and,if_false,jB];rfl
end Go.Q15
