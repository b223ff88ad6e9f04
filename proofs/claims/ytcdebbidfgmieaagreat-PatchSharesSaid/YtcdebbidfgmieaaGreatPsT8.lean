/- A part of the proof: RG, RH, RI, RJ, RK, M52, RL, S4, S5, S6, YX, W7, RN, RO, W8, RP, SA, YM, YN, PVa, PVb, PSg, PSh, PSi. No condition. -/
import Derived.Test.YtcdebbidfgmieaaGreatPsT0
import Derived.Maps.RangeRun
import Derived.Test.YtcdebbidfgmieaaGreatPsT7
set_option linter.unusedVariables false
set_option linter.unusedSimpArgs false
set_option maxHeartbeats 8000000
set_option maxRecDepth 100000
namespace Go.Q15
open Go Go.QAbs
variable {r':AR}{cv:AV}{a:Act}{ro:Bool}{e:Env}{f:FuncId}{it:It}{c:ItC}{A:List (Bool × List Blk)}{args caps cls:LV}{l:List Nat}{clock d i ip ix j la mx n ob ox rx tx ver wb:Nat}{x:Nd}{o:Oper}{s st:St}{t:Tr}
def Q7(ρ:Nat->Ro):ItC->Nd
 | .leaf s=>⟨0,s,none⟩
 | .inn h ks=>⟨h,[],some (ks.map fun k=>(ρ k).kid)⟩
def ZjZ:ItC->List Nat
 | .leaf _=>[]
 | .inn _ ks=>ks
theorem Zqa(x:Nd):weak x.av=x.av:=by
 obtain⟨h,s,k⟩:=x
 cases k<;>rfl
theorem wkPN{a:AV}(h:weak a=a)(x:Nd):ZV (ZY ([]++[a,x.av]++[]))=some [a,x.av]:=by
 simp only[lE,lN,lC,ZY,Zqa,ZV,h]
theorem Zlo{ρ:Nat->Ro}(h:NdOk (Q7 ρ c)):((Q7 ρ c).h=0->(Q7 ρ c).kids=none)/\∀hh ks,c=.inn hh ks->1<=ks.length/\ks.length<=4:=by
 cases c with
 | leaf s=>exact⟨fun _=>rfl,fun hh ks q=>by simp at q⟩
 | inn hh ks =>
  rcases h with q|⟨n,l,q⟩
  ·have:=q.lo;simp[Q7]at this
  ·have e:=q.eq
   have h1:=q.lo;have h2:=q.hi;simp only[Q7,Nd.mk.injEq,oJ]at e;obtain⟨e1,_,e3⟩:=e
   refine⟨fun w=>by simp[Q7]at w;omega,fun hh' ks' q2=>?_⟩
   simp only[ItC.inn.injEq]at q2;obtain⟨rfl,rfl⟩:=q2;rw[<- e3,List.length_map]at h1 h2;omega
theorem Zlp{F:List (Nat × Blk)}{ρ:Nat->Ro}(hcv:CvOk n F cv c)(hF:∀p∈F,st.get n p.1=some p.2)(hR:∀r∈ZjZ c,st.get n r=some (.arr 5 0 [(ρ r).av]))(hl:∀h ks,c=.inn h ks->1<=ks.length/\ks.length<=4):
 S Tb (match cv with|.func (.func g) _ _=>g|_=>0) (match cv with|.func _ _ cap=>cap|_=>[]) st=some ((Q7 ρ c).av,st):=by
 cases c with
 | leaf s =>
  obtain⟨xb,rfl,h2⟩:=hcv;exact ZqY (hF _ h2)
 | inn h ks =>
  obtain⟨tb,kb,kx,t,rfl,h2,h3,h4,h5⟩:=hcv;subst h2;exact ZqZ (hF _ h3) (hF _ h4) (hF _ h5) hR (hl _ _ Y)
theorem CvOk.form{F:List (Nat × Blk)}(h:CvOk n F cv c):Cv n cv:=by
 cases c with
 | leaf s=>obtain⟨xb,rfl,_⟩:=h;exact .one _
 | inn h ks=>obtain⟨tb,kb,kx,t,rfl,_⟩:=h;exact .two _ _
def Ro.wr(r:Ro)(h:Nat):Ro:=⟨h,r.h,r.m⟩
theorem Zqb{b b0 b1 b2:Nat}{td rp:AV}{r:AR}{F:List (Nat × Blk)}{ρ:Nat->Ro}(hb0:st.get n b0=some (.arr 1 0 [.ptr n ip 0 0 0]))(hb1:st.get n b1=some (.arr 1 0 [cv]))(hb2:st.get n b2=some (.arr 1 0 [.ptr n it.rx 0 0 0]))
 (hip:st.get n ip=some (.arr 3 0 [.agg [.ptr la (b+5) 0 0 0,td,rp]])) (hcv:CvOk n F cv it.c) (hF:∀p∈F,st.get n p.1=some p.2) (hR:∀k∈ZjZ it.c,st.get n k=some (.arr 5 0 [(ρ k).av])) (hrx:st.get n it.rx=some (.arr 5 0 [(ρ it.rx).av]))
 (hA:Has st la b r) (ho:AROk r) (hn:0<r.n) (hx:NdOk (Q7 ρ it.c)) (hL:∀k∈(Q7 ρ it.c).ks,∃y,lk r.nodes k.at_=some y/\NdOk y/\y.h+1=(Q7 ρ it.c).h/\y.mea=k.m) (hw:st.wr n)
 (hs:∀i,i=it.rx\/i=b2->¬ (n=la/\b<=i/\i<=b+5)) :
 S Tb XR [.ptr n b0 0 0 0,.ptr n b1 0 0 0,.ptr n b2 0 0 0] st=some (.tup [.int .u64 r.next,.int .i64 0],(Qe st la b (r.add (Q7 ρ it.c))).upd n it.rx (.arr 5 0 [((ρ it.rx).wr r.next).av])):=by
 obtain⟨hk0,hk4⟩:=Zlo hx
 refine ZAc Y (fun A hA'=>?_)
 have g0:=fun L=>ZX hA' (ro:=false) (L:=L) hb0
 have g1:=fun L=>ZX hA' (ro:=false) (L:=L) hb1
 have g2:=fun L=>ZX hA' (ro:=false) (L:=L) hb2
 have g3:=fun L=>ZX hA' (ro:=false) (L:=L) hip
 have hC:=fun L=>Zlp (st:=St.allRo ⟨A,false,L⟩) (ρ:=ρ) hcv (fun p hp=>by rw[Jp];exact ZX hA' (hF p hp)) (fun k hk=>by rw[Jp];exact ZX hA' (hR k hk)) hk4
 have hAl:=fun L=>Znj (hA.push hA' (ro:=false) (L:=L)) ho hn hx hk0 hL
 have hle:=hA.le;have hP:=hA.put (r.add (Q7 ρ it.c));have hw1:(Qe st la b (r.add (Q7 ρ it.c))).wr n:=ZN9 hA.cl.wr hw
 have hg2:(Qe st la b (r.add (Q7 ρ it.c))).get n b2=some (.arr 1 0 [.ptr n it.rx 0 0 0]):=by rw[hA.out _ (hs _ (.inr rfl))];exact hb2
 have hgr:(Qe st la b (r.add (Q7 ρ it.c))).get n it.rx=some (.arr 5 0 [(ρ it.rx).av]):=by rw[hA.out _ (hs _ (.inl rfl))];exact hrx
 cases hcv.form
 all_goals simp only at hC
 all_goals repeat'(first|refine ZA Y Y (wkPN Y _) (hAl _) ?_|refine ZE ?_|refine ZD ?_|refine ZG Y ?_|refine ZU Y Y ?_|refine Zs Y Y ?_|refine ZB Y ?_|refine ZC ?_|refine Z5 Y Y ?_|(refine cm0 Y Y Y ?_ ?_<;>intro _<;>try omega)|refine ZW Y ?_|refine Z9 Y (g0 _) Y Y ?_|refine Z9 Y (g1 _) Y Y ?_|refine Z9 Y (g3 _) Y Y ?_|refine YL Y Y Y (hC _) ?_)
 all_goals rw[ZAF hA' hle]
 all_goals obtain⟨A1,hA1⟩:∃A1,A1=(Qe st la b (r.add (Q7 ρ it.c))).ps:=⟨_,rfl⟩
 all_goals rw[<- hA1]
 all_goals generalize Qe st la b (r.add (Q7 ρ it.c))=st1 at *
 all_goals have q2:=fun L=>ZX hA1 (ro:=false) (L:=L) hg2
 all_goals repeat'(first|refine ZG Y ?_|refine ZU Y Y ?_|refine Z5 Y Y ?_|refine Z9 Y (q2 _) Y Y ?_)
 all_goals refine is_stP hA1 Y Y hw1 hgr Y Y Y (fun A2 hA2=>?_)
 all_goals repeat'(first|refine ZE ?_|refine ZD ?_|refine ZG Y ?_|refine ZB Y ?_|refine ZC ?_|refine ZQ ?_|refine ZO ?_)
 all_goals refine Zi hA2 (.inr Y) Y Y Y Y ?_
 all_goals rfl
theorem Zrx{b b0 b1 b2:Nat}{rp cv cl:AV}{r:AR}{F:List (Nat × Blk)}{ρ:Nat->Ro}(htd:st.get n tx=some (.arr 1 ver cls))(hj:cls[j]?=some cl)(hcl:ClOk n ip F cl it)(hlen:cls.length<1000000)
 (hip:st.get n ip=some (.arr 3 0 [.agg [.ptr la (b+5) 0 0 0,.ref n tx ver j (cls.length-j),rp]])) (hF:∀p∈F,st.get n p.1=some p.2) (hR:∀k∈ZjZ it.c,st.get n k=some (.arr 5 0 [(ρ k).av])) (hrx:st.get n it.rx=some (.arr 5 0 [(ρ it.rx).av]))
 (hA:Has st la b r) (ho:AROk r) (hn:0<r.n) (hx:NdOk (Q7 ρ it.c)) (hL:∀k∈(Q7 ρ it.c).ks,∃y,lk r.nodes k.at_=some y/\NdOk y/\y.h+1=(Q7 ρ it.c).h/\y.mea=k.m) (hw:st.wr n)
 (hs:∀i,i=it.rx\/i=ip\/i=tx\/(∃p∈F,i=p.1)->¬ (n=la/\b<=i/\i<=b+5)) (hne:it.rx≠ip/\it.rx≠tx/\tx≠ip) :
 S Tb Xp [.ptr n ip 0 0 0] st=some (.tup [.int .u64 r.next,.bool (decide (cls.length=j+1)),.int .i64 0],
  ((Qe st la b (r.add (Q7 ρ it.c))).upd n it.rx (.arr 5 0 [((ρ it.rx).wr r.next).av])).upd n ip (.arr 3 0 [.agg [.ptr la (b+5) 0 0 0,.ref n tx ver (j+1) (cls.length-j-1),rp]])):=by
 obtain⟨b0,b1,b2,cv,rfl,h0,h1,h2,hcv⟩:=hcl;have hjl:=(List.getElem?_eq_some_iff.1 hj).1
 refine ZAc Y (fun A hA'=>?_)
 have g3:=fun L=>ZX hA' (ro:=false) (L:=L) hip
 have gt:=fun L=>ZX hA' (ro:=false) (L:=L) htd
 have hwi:∀L,wIs 1 ver (St.get ⟨A,false,L⟩ n tx)=true:=fun L=>by rw[gt];simp[wIs]
 have hle:=hA.le;have hnl:n<=st.A.length:=St.get_le hip;have hP:=hA.put (r.add (Q7 ρ it.c));have hw1:(Qe st la b (r.add (Q7 ρ it.c))).wr n:=ZN9 hA.cl.wr hw;have hp1:=hs ip (.inr (.inl rfl));have hp2:=hs tx (.inr (.inr (.inl rfl)));have hp3:=hs it.rx (.inl rfl);have k1:(Qe st la b (r.add (Q7 ρ it.c))).get n it.rx=_:=(hA.out _ hp3).trans hrx;have k2:(Qe st la b (r.add (Q7 ρ it.c))).get n ip=_:=(hA.out _ hp1).trans hip;have k3:(Qe st la b (r.add (Q7 ρ it.c))).get n tx=_:=(hA.out _ hp2).trans htd
 have hput:=fun L=>Zqb (st:=⟨A,false,L⟩) (ρ:=ρ) (ZX hA' (hF _ h0)) (ZX hA' (hF _ h1)) (ZX hA' (hF _ h2)) (g3 L) hcv (fun p hp=>ZX hA' (hF p hp)) (fun k hk=>ZX hA' (hR k hk)) (ZX hA' hrx) (hA.push hA' (ro:=false) (L:=L)) ho hn hx hL (XM hA' hnl hw)
  (fun i hi=>by
   rcases hi with rfl|rfl
   ·exact hp3
   ·exact hs _ (.inr (.inr (.inr ⟨_,h2,rfl⟩))))
 have e1:∀L,(Qe ⟨A,false,L⟩ la b (r.add (Q7 ρ it.c))).upd n it.rx (.arr 5 0 [((ρ it.rx).wr r.next).av])=⟨((Qe st la b (r.add (Q7 ρ it.c))).upd n it.rx (.arr 5 0 [((ρ it.rx).wr r.next).av])).ps,false,L⟩:=fun L=>by
  rw[ZAF hA' hle]
  exact Jh Y (by rw[ZFf];exact hnl)
 simp only[e1]at hput;clear e1
 have m1:∀l' i',((Qe st la b (r.add (Q7 ρ it.c))).upd n it.rx (.arr 5 0 [((ρ it.rx).wr r.next).av])).get l' i'=if l'=n/\i'=it.rx then some (.arr 5 0 [((ρ it.rx).wr r.next).av]) else (Qe st la b (r.add (Q7 ρ it.c))).get l' i':=fun l' i'=>St.get_upd k1 rfl
 have n2:=(m1 n ip).trans ((if_neg (fun q=>hne.1 q.2.symm)).trans k2)
 have n3:=(m1 n tx).trans ((if_neg (fun q=>hne.2.1 q.2.symm)).trans k3)
 have hw2:((Qe st la b (r.add (Q7 ρ it.c))).upd n it.rx (.arr 5 0 [((ρ it.rx).wr r.next).av])).wr n:=St.wr_upd hw1 hw1;clear m1 k1 k2 k3
 generalize (Qe st la b (r.add (Q7 ρ it.c))).upd n it.rx (.arr 5 0 [((ρ it.rx).wr r.next).av])=st1 at *
 have hj2:cls[j+((0:Nat):Int).toNat]?=some (clV n b0 b1 b2):=by simpa using hj
 unfold clV at hj2
 repeat'(first|refine ZE ?_|refine ZD ?_|refine ZG Y ?_|refine ZU Y Y ?_|refine ZB Y ?_|refine ZC ?_|refine Z5 Y Y ?_|refine JZ Y ?_|(refine cm0 Y Y Y ?_ ?_<;>intro _<;>try omega)|refine ZH Y ?_|refine Ju Y Y Y Y ?_|refine Z9 Y (g3 _) Y Y ?_|refine ZCi Y Y (by omega) (hwi _) ?_|refine Z9 Y (gt _) hj2 Y ?_|refine ZI ?_)
 all_goals try omega
 refine ZA Y Y Y (hput _) ?_;obtain⟨A1,hA1⟩:∃A1,A1=st1.ps:=⟨_,rfl⟩;rw[<- hA1]
 have q2:=fun L=>ZX hA1 (ro:=false) (L:=L) n2
 have q3:=fun L=>ZX hA1 (ro:=false) (L:=L) n3
 have hwi1:∀L,wIs 1 ver (St.get ⟨A1,false,L⟩ n tx)=true:=fun L=>by rw[q3];simp[wIs]
 repeat'(first|refine ZE ?_|refine ZD ?_|refine ZG Y ?_|refine ZU Y Y ?_|refine Zs Y Y ?_|refine ZB Y ?_|refine ZC ?_|refine Z5 Y Y ?_|(refine cm0 Y Y Y ?_ ?_<;>intro _<;>try omega)|refine ZH Y ?_|refine Z9 Y (q2 _) Y Y ?_|refine ZKP Y Y (by omega) (hwi1 _) ?_|refine ZI ?_)
 all_goals try contradiction
 refine is_stP hA1 Y Y hw2 n2 Y (Ja _ (Nat.lt_succ_self _)) Y (fun A2 hA2=>?_)
 have eB:Blk.arr 3 0 ([AV.agg [.ptr la (b+5) 0 0 0,.ref n tx ver j (cls.length-j),rp]].set 0 (.agg [.ptr la (b+5) 0 0 0,.ref n tx ver (j+(1:Int).toNat) (cls.length-j-(1:Int).toNat),rp]))=Blk.arr 3 0 [.agg [.ptr la (b+5) 0 0 0,.ref n tx ver (j+1) (cls.length-j-1),rp]]:=rfl;rw[eB]at hA2;have r2:(st1.upd n ip (Blk.arr 3 0 [.agg [.ptr la (b+5) 0 0 0,.ref n tx ver (j+1) (cls.length-j-1),rp]])).get n ip=_:=(St.get_upd n2 rfl).trans (if_pos ⟨rfl,rfl⟩)
 have p2:=fun L=>ZX hA2 (ro:=false) (L:=L) r2
 repeat'(first|refine ZE ?_|refine ZD ?_|refine ZG Y ?_|refine ZU Y Y ?_|refine ZB Y ?_|refine ZC ?_|refine Z5 Y Y ?_|refine JZ Y ?_|(refine cm0 Y Y Y ?_ ?_<;>intro _<;>try omega)|refine Z9 Y (p2 _) Y Y ?_|refine ZQ ?_|refine ZO ?_)
 ·rename_i hz
  rw[decide_eq_true (show cls.length=j+1 by omega)]
  exact Zi hA2 (.inr Y) Y Y Y Y Y
 ·rename_i hz
  rw[decide_eq_false (show ¬ cls.length=j+1 by omega)]
  exact Zi hA2 (.inr Y) Y Y Y Y Y
def Ext(N M:ZJ):Prop:=∀o x,lk N o=some x->lk M o=some x
theorem Ext.refl(N:ZJ):Ext N N:=fun _ _ h=>h
theorem Ext.trans{N M K:ZJ}(h:Ext N M)(g:Ext M K):Ext N K:=fun o x q=>g o x (h o x q)
theorem Val.ext{N M:ZJ}(hs:Ext N M)(hv:Val N t):Val M t:=by
 induction hv with
 | kept h0 hx hok hh hm hk=>exact .kept h0 (hs _ _ hx) hok hh hm hk
 | leaf h1 h2 hk=>exact .leaf h1 h2 hk
 | inner hh h2 h4 hl hb hv ih=>exact .inner hh h2 h4 hl hb ih
theorem ZI5{N M:ZJ}(hN:GoodN N)(hs:Ext N M):∀n o x,lk N o=some x->x.h=n->Qd M n o=Qd N n o:=by
 intro n
 induction n with
 | zero=>intro o x hx hh;rw[Qd,Qd,hx,hs _ _ hx]
 | succ n ih =>
  intro o x hx hh;rw[Qd,Qd,hx,hs _ _ hx];simp only[Option.map_some,Option.getD_some];have hk:=(hN o x hx).2
  have key:∀l:List Kid,(∀k∈l,k∈x.ks)->(l.flatMap fun k=>Qd M n k.at_)=l.flatMap fun k=>Qd N n k.at_:=by
   intro l
   induction l with
   | nil=>intro _;rfl
   | cons k l ih2 =>
    intro h
    obtain⟨_,y,y1,y2,_⟩:=hk k (h k (by simp))
    rw[List.flatMap_cons,List.flatMap_cons,ih k.at_ y y1 (by omega),ih2 (fun q hq=>h q (by simp[hq]))]
  exact key _ fun _ h=>h
theorem ZOQ{r:AR}(ho:AROk r)(hn:0<r.n)(x:Nd):Ext r.nodes (r.add x).nodes:=fun o y h=>by
 rw[ZFg ho hn,if_neg]
 ·exact h
 ·intro q;rw[q,ho.new hn]at h;simp at h
def ZRj(N:ZJ)(x:Nd):Prop:=∀k∈x.ks,∃y,lk N k.at_=some y/\NdOk y/\y.h+1=x.h/\y.mea=k.m
theorem Zno{r:AR}(ho:AROk r)(hn:0<r.n)(hg:GoodN r.nodes)(hx:NdOk x)(hk:ZRj r.nodes x)(h0:∀k∈x.ks,k.at_≠0):GoodN (r.add x).nodes:=by
 intro o y h;have hE:=ZOQ ho hn x;rw[ZFg ho hn]at h
 split at h
 ·simp only[oJ]at h
  subst h
  refine⟨hx.copy,fun k hkk=>?_⟩
  have hkk':k∈x.ks:=hkk;obtain⟨z,z1,z2,z3,z4⟩:=hk k hkk';exact⟨h0 k hkk',z,hE _ _ z1,z3,z4⟩
 ·obtain⟨h1,h2⟩:=hg o y h
  refine⟨h1,fun k hkk=>?_⟩
  obtain⟨g0,z,z1,z2,z3⟩:=h2 k hkk;exact⟨g0,z,hE _ _ z1,z2,z3⟩
theorem AROk.hnd{r:AR}(h:AROk r){o:Nat}(hx:lk r.nodes o=some x):ZCF o/\o≠0:=by
 obtain⟨s,g,h1,h2,h3,h4⟩:=h.key o x hx;obtain⟨g',g1,g2,g3⟩:=h.gen s h2;rw[h4]at g1;simp only[oJ]at g1
 have:=h.n16
 have:=h.most
 unfold ZCF;omega
def ZOR(ρ:Nat->Ro)(k h:Nat):Nat->Ro:=fun i=>if i=k then (ρ i).wr h else ρ i
inductive RunOk:List It->AR->(Nat->Ro)->AR->(Nat->Ro)->List Nat->Prop
 | nil {r ρ}:RunOk [] r ρ r ρ []
 | cons {it its r ρ r' ρ' hs} (hn:0<r.n) (hx:NdOk (Q7 ρ it.c)) (hk:ZRj r.nodes (Q7 ρ it.c)) (h:RunOk its (r.add (Q7 ρ it.c)) (ZOR ρ it.rx r.next) r' ρ' hs):RunOk (it::its) r ρ r' ρ' (r.next::hs)
theorem RunOk.append{i1 i2:List It}{r r1 r2:AR}{ρ ρ1 ρ2:Nat->Ro}{h1 h2:List Nat}(h:RunOk i1 r ρ r1 ρ1 h1)(g:RunOk i2 r1 ρ1 r2 ρ2 h2):RunOk (i1++i2) r ρ r2 ρ2 (h1++h2):=by
 induction h with
 | nil=>exact g
 | cons hn hx hk h ih=>exact .cons hn hx hk (ih g)
namespace Tr
mutual
def wr:Tr->AR->AR × Ro × List Nat
 | .mk o h m s k,r =>
  if o≠0 then (r,⟨o,h,m⟩,[])
  else if h=0 then (r.add ⟨0,s,none⟩,⟨r.next,0,YV s⟩,[r.next])
  else ((wrO k r).1.add ⟨h,[],some (wrO k r).2.1⟩,⟨(wrO k r).1.next,h,QI ((wrO k r).2.1.map Kid.m)⟩,(wrO k r).2.2++[(wrO k r).1.next])
def wrO:Option (List Tr)->AR->AR × List Kid × List Nat
 | none,r=>(r,[],[])
 | some l,r=>wrL l r
def wrL:List Tr->AR->AR × List Kid × List Nat
 | [],r=>(r,[],[])
 | t::l,r=>((wrL l (t.wr r).1).1,(t.wr r).2.1.kid::(wrL l (t.wr r).1).2.1,(t.wr r).2.2++(wrL l (t.wr r).1).2.2)
end
end Tr
structure WrB(r:AR)(c:Nat)(r':AR)(hs:List Nat):Prop where
 ok:AROk r'
 good:GoodN r'.nodes
 ext:Ext r.nodes r'.nodes
 n:r'.n+c=r.n
 len:hs.length=c
 new:∀h∈hs,lk r.nodes h=none
 all:∀h x,lk r'.nodes h=some x->lk r.nodes h=some x\/h∈hs
 has:∀h∈hs,∃x,lk r'.nodes h=some x
 nodup:hs.Nodup
 frees:r'.frees=r.frees
 stale:r'.stale=r.stale
 slots:r'.slots=r.slots
 allocs:r'.allocs=r.allocs+c
 nl:r'.nodes.length=r.nodes.length+c
theorem WrB.refl{r:AR}(ho:AROk r)(hg:GoodN r.nodes):WrB r 0 r [] :=
 ⟨ho,hg,.refl _,by simp,rfl,fun h q=>by simp at q,fun h x q=>.inl q,fun h q=>by simp at q,by simp,rfl,rfl,rfl,by simp,by simp⟩
theorem WrB.trans{r r1 r2:AR}{c d:Nat}{h1 h2:List Nat}(h:WrB r c r1 h1)(g:WrB r1 d r2 h2):WrB r (c+d) r2 (h1++h2):=by
 refine⟨g.ok,g.good,h.ext.trans g.ext,by have:=h.n;have:=g.n;omega,by rw[lL,h.len,g.len],fun o ho=>?_,fun o x ho=>?_,fun o ho=>?_,?_,g.frees.trans h.frees,g.stale.trans h.stale,g.slots.trans h.slots,by rw[g.allocs,h.allocs];omega,by rw[g.nl,h.nl];omega⟩
 ·rcases List.mem_append.1 ho with q|q
  ·exact h.new o q
  ·cases hk:lk r.nodes o with
   | none=>rfl
   | some x=>have:=g.new o q;rw[h.ext _ _ hk]at this;simp at this
 ·rcases g.all o x ho with q|q
  ·rcases h.all o x q with w|w
   ·exact .inl w
   ·exact .inr (by simp[w])
  ·exact .inr (by simp[q])
 ·rcases List.mem_append.1 ho with q|q
  ·obtain⟨x,hx⟩:=h.has o q
   exact⟨x,g.ext _ _ hx⟩
  ·exact g.has o q
 ·rw[List.nodup_append]
  refine⟨h.nodup,g.nodup,fun x hx y hy e=>?_⟩
  subst e;obtain⟨z,hz⟩:=h.has x hx;rw[g.new x hy]at hz
  simp at hz
theorem WrB.one{r:AR}(ho:AROk r)(hn:0<r.n)(hg:GoodN r.nodes){x:Nd}(hx:NdOk x)(hk:ZRj r.nodes x)(h0:∀k∈x.ks,k.at_≠0):WrB r 1 (r.add x) [r.next]:=by
 refine⟨ho.add hn x,Zno ho hn hg hx hk h0,ZOQ ho hn x,?_,rfl,fun o q=>?_,fun o y q=>?_,fun o q=>?_,by simp,rfl,rfl,rfl,rfl,by simp[AR.add,AR.alloc]⟩
 ·show r.n-1+1=r.n;omega
 ·simp only[List.mem_singleton]at q;subst q;exact ho.new hn
 ·rw[ZFg ho hn]at q
  split at q
  ·rename_i e;exact .inr (by simp[e])
  ·exact .inl q
 ·simp only[List.mem_singleton]at q
  exact⟨x.copy,by rw[ZFg ho hn,if_pos q]⟩
structure WrOk(N:ZJ)(t:Tr)(r':AR)(ro:Ro):Prop where
 rm:ro.m=t.mea
 rh:ro.h=t.h
 live:∃y,lk r'.nodes ro.at_=some y/\NdOk y/\y.h=t.h/\y.mea=t.mea
 txt:Qd r'.nodes t.h ro.at_=t.txt N
def Exec(N:ZJ)(t:Tr):Prop:=∀(r:AR),AROk r->GoodN r.nodes->Ext N r.nodes->t.cnt<=r.n->∀(rx:Nat) (its:List It) (R:List (Nat × Ro)) (ρ:Nat->Ro),AddT t rx its R->(∀p∈R,ρ p.1=p.2)->(R.map Prod.fst).Nodup ->
 ∃ρ',RunOk its r ρ (t.wr r).1 ρ' (t.wr r).2.2/\ρ' rx=(t.wr r).2.1/\(∀k,k∉R.map Prod.fst->ρ' k=ρ k)/\WrB r t.cnt (t.wr r).1 (t.wr r).2.2/\WrOk N t (t.wr r).1 (t.wr r).2.1
structure WrLs(N:ZJ)(l:List Tr)(h:Nat)(r':AR)(ks:List Kid):Prop where
 len:ks.length=l.length
 m:ks.map Kid.m=l.map Tr.mea
 ok:∀k∈ks,KidOk h k/\k.at_≠0/\∃y,lk r'.nodes k.at_=some y/\NdOk y/\y.h=h/\y.mea=k.m
 txt:(ks.flatMap fun k=>Qd r'.nodes h k.at_)=Tr.txtL N l
theorem Zsj{N:ZJ}(hN:GoodN N){h:Nat}:∀(l:List Tr),(∀u∈l,Val N u/\u.h=h/\Big u)->(∀u∈l,Exec N u)->∀(r:AR),AROk r->GoodN r.nodes->Ext N r.nodes->Tr.cntL l<=r.n->∀(rs:List Nat) (its:List It) (R:List (Nat × Ro)) (ρ:Nat->Ro),AddL l rs its R->(∀p∈R,ρ p.1=p.2)->(R.map Prod.fst).Nodup ->
 ∃ρ',RunOk its r ρ (Tr.wrL l r).1 ρ' (Tr.wrL l r).2.2/\(rs.map fun k=>(ρ' k).kid)=(Tr.wrL l r).2.1/\(∀k,k∉R.map Prod.fst->ρ' k=ρ k)/\WrB r (Tr.cntL l) (Tr.wrL l r).1 (Tr.wrL l r).2.2/\WrLs N l h (Tr.wrL l r).1 (Tr.wrL l r).2.1:=by
 intro l
 induction l with
 | nil =>
  intro _ _ r ho hg hE hc rs its R ρ ha hR hnd
  cases ha
  exact⟨ρ,.nil,rfl,fun _ _=>rfl,.refl ho hg,⟨rfl,rfl,fun k hk=>by simp[Tr.wrL]at hk,rfl⟩⟩
 | cons t l ih =>
  intro hv hx r ho hg hE hc rs its R ρ ha hR hnd
  cases ha with
  | @cons _ _ rx rs i1 i2 R1 R2 ht hl =>
   rw[Tr.cntL]at hc;rw[List.map_append,List.nodup_append]at hnd;obtain⟨nd1,nd2,nd3⟩:=hnd
   obtain⟨ρ1,a1,a2,a3,a4,a5⟩:=hx t (by simp) r ho hg hE (by omega) rx i1 R1 ρ ht (fun p hp=>hR p (by simp[hp])) nd1
   have hn1:=a4.n
   have hd:∀p∈R2,p.1∉R1.map Prod.fst:=fun p hp q=>nd3 _ q _ (List.mem_map.2 ⟨p,hp,rfl⟩) rfl
   obtain⟨ρ2,b1,b2,b3,b4,b5⟩:=ih (fun u hu=>hv u (by simp[hu])) (fun u hu=>hx u (by simp[hu])) _ a4.ok a4.good (hE.trans a4.ext) (by omega) rs i2 R2 ρ1 hl (fun p hp=>by rw[a3 _ (hd p hp)];exact hR p (by simp[hp])) nd2
   obtain⟨rr,hrr,_,_⟩:=ht.root
   have hrx:rx∉R2.map Prod.fst:=fun q=>nd3 rx (List.mem_map.2 ⟨_,hrr,rfl⟩) rx q rfl
   obtain⟨v1,v2,v3⟩:=hv t (by simp)
   refine⟨ρ2,a1.append b1,?_,?_,?_,?_⟩
   ·rw[jC,b3 rx hrx,a2,b2];rfl
   ·intro k hk
    rw[List.map_append,List.mem_append,not_or]at hk;rw[b3 k hk.2,a3 k hk.1]
   ·rw[Tr.cntL];exact a4.trans b4
   ·obtain⟨y,y1,y2,y3,y4⟩:=a5.live
    have hh:=a4.ok.hnd y1;have hkm:((t.wr r).2.1.kid).m=t.mea:=a5.rm;have hka:((t.wr r).2.1.kid).at_=(t.wr r).2.1.at_:=rfl
    refine⟨by show _+1=_;rw[b5.len];rfl,?_,?_,?_⟩
    ·show ((t.wr r).2.1.kid).m::_=_
     rw[hkm,b5.m];rfl
    ·intro k hk
     rcases List.mem_cons.1 hk with rfl|q
     ·refine⟨?_,hh.2,y,b4.ext _ _ y1,y2,by rw[y3,v2],by rw[y4];exact hkm.symm⟩
      have hs:=v1.size hN v3;have hb:=v1.mea_ok.1
      have:=y2.kid (a:=(t.wr r).2.1.at_) (by rw[y3,y4,hb];exact hs) hh.1
      rw[y3,v2,y4,<- a5.rm]at this;exact this
     ·exact b5.ok k q
    ·show Qd (Tr.wrL l (t.wr r).1).1.nodes h (t.wr r).2.1.at_++((Tr.wrL l (t.wr r).1).2.1.flatMap fun k=>Qd (Tr.wrL l (t.wr r).1).1.nodes h k.at_)=_
     rw[b5.txt,Tr.txtL,<- a5.txt,v2]
     congr 1
     exact ZI5 a4.good b4.ext h _ y y1 (by rw[y3,v2])
theorem exec_ok{N:ZJ}(hN:GoodN N)(hv:Val N t):t.bytes<=65536->Exec N t:=by
 induction hv with
 | @kept o h m k x h0 hx hok hh hm hk =>
  intro _ r ho hg hE hc rx its R ρ ha hR hnd
  have e:(Tr.mk o h m [] k).wr r=(r,⟨o,h,m⟩,[]):=by rw[Tr.wr,if_pos h0]
  have ec:(Tr.mk o h m [] k).cnt=0:=by rw[Tr.cnt,Tr.cntO_getD,hk,if_neg h0];rfl
  rw[e,ec]
  cases ha with
  | kept _ =>
   refine⟨ρ,.nil,hR (rx,⟨o,h,m⟩) (by simp),fun _ _=>rfl,.refl ho hg,⟨(ZOP h0).symm,rfl,⟨x,hE _ _ hx,hok,hh,by rw[ZOP h0];exact hm⟩,?_⟩⟩
   show Qd r.nodes h o=_
   rw[ZI5 hN hE h o x hx hh,Tr.txt,if_neg h0,Tr.txtO_getD,hk]
   simp[Tr.txtL]
  | leaf=>exact absurd Y h0
  | inner=>exact absurd Y h0
 | @leaf s k h1 h2 hk =>
  intro _ r ho hg hE hc rx its R ρ ha hR hnd
  have e:(Tr.mk 0 0 .zero s k).wr r=(r.add ⟨0,s,none⟩,⟨r.next,0,YV s⟩,[r.next]):=by rw[Tr.wr];simp
  have ec:(Tr.mk 0 0 .zero s k).cnt=1:=by rw[Tr.cnt,Tr.cntO_getD,hk];rfl
  rw[ec]at hc;rw[e,ec];have hx:NdOk ⟨0,s,none⟩:=.inl ⟨rfl,h1,h2,rfl⟩
  cases ha with
  | kept h0=>exact absurd Y h0
  | leaf =>
   have hρ:ρ rx=⟨0,0,YV s⟩:=hR (rx,⟨0,0,YV s⟩) (by simp)
   refine⟨ZOR ρ rx r.next,.cons (by omega) hx (fun k hk=>by simp[Q7,Nd.ks]at hk) .nil,?_,fun k hk=>?_,.one ho (by omega) hg hx (fun k hk=>by simp[Nd.ks]at hk) (fun k hk=>by simp[Nd.ks]at hk),⟨(ZOO s k).symm,rfl,⟨(⟨0,s,none⟩:Nd).copy,?_,hx.copy,rfl,?_⟩,?_⟩⟩
   ·simp only[ZOR,if_true,hρ];rfl
   ·simp only[jC,List.map_nil,List.mem_singleton]at hk
    simp only[ZOR,if_neg hk]
   ·rw[ZFg ho (by omega),if_pos rfl]
   ·rw[ZOO];rfl
   ·show Qd _ 0 r.next=_
    rw[Qd,ZFg ho (by omega),if_pos rfl,Tr.txt,if_pos rfl,Tr.txtO_getD,hk]
    simp[Tr.txtL,Nd.copy]
 | @inner h l hh h2 h4 hl hb hv ih =>
  intro hb2 r ho hg hE hc rx its R ρ ha hR hnd
  have eb:(Tr.mk 0 (h+1) .zero [] (some l)).bytes=Tr.bytesL l:=by rw[Tr.bytes,Tr.bytesO];simp[Mea.zero]
  have hbs:∀u∈l,u.bytes<=65536:=fun u hu=>by
   obtain⟨i,hi,rfl⟩:=List.getElem_of_mem hu
   have h3:Tr.bytesL l=Tr.bytesL (l.take i)+(l[i].bytes+Tr.bytesL (l.drop (i+1))):=by
    conv=>lhs;rw[<- List.take_append_drop (i+1) l,Zb (jE hi),Tr.bytesL_append,Tr.bytesL_append]
    simp[Tr.bytesL];omega
   have n1:=Tr.bytesL_nonneg (l:=l.take i) (fun t ht=>by have:=(hv t (List.mem_of_mem_take ht)).pos.2;omega)
   have n2:=Tr.bytesL_nonneg (l:=l.drop (i+1)) (fun t ht=>by have:=(hv t (List.mem_of_mem_drop ht)).pos.2;omega)
   omega
  have ec:(Tr.mk 0 (h+1) .zero [] (some l)).cnt=Tr.cntL l+1:=by rw[Tr.cnt,Tr.cntO];simp;omega
  rw[ec]at hc
  have hbl:(QI (l.map Tr.mea)).b=Tr.bytesL l:=ZjY l fun u hu=>(hv u hu).mea_ok.1
  have e:(Tr.mk 0 (h+1) .zero [] (some l)).wr r=((Tr.wrL l r).1.add ⟨h+1,[],some (Tr.wrL l r).2.1⟩,⟨(Tr.wrL l r).1.next,h+1,QI ((Tr.wrL l r).2.1.map Kid.m)⟩,(Tr.wrL l r).2.2++[(Tr.wrL l r).1.next]):=by
   rw[Tr.wr];simp[Tr.wrO]
  rw[e,ec]
  cases ha with
  | kept h0=>exact absurd Y h0
  | @inner _ _ _ rs i1 R1 hal hn1 hx1 =>
   obtain⟨ρ1,a1,a2,a3,a4,a5⟩:=Zsj hN l (fun u hu=>⟨hv u hu,hl u hu,fun q=>hb u hu (by rw[<- hl u hu];exact q)⟩) (fun u hu=>ih u hu (hbs u hu)) r ho hg hE (by omega) rs i1 R1 ρ hal (fun p hp=>hR p (by simp[hp])) hn1
   have hρ:ρ1 rx=⟨0,h+1,QI (l.map Tr.mea)⟩:=by rw[a3 rx hx1];exact hR (rx,⟨0,h+1,QI (l.map Tr.mea)⟩) (by simp)
   have hn:0<(Tr.wrL l r).1.n:=by have:=a4.n;omega
   generalize hks:(Tr.wrL l r).2.1=ks at *
   generalize (Tr.wrL l r).1=r1 at *
   have hx:NdOk ⟨h+1,[],some ks⟩:=.inr ⟨h,ks,rfl,by omega,by have:=a5.len;omega,by have:=a5.len;omega,fun k hk=>(a5.ok k hk).1,by rw[a5.m,hbl];omega⟩
   have hki:ZRj r1.nodes ⟨h+1,[],some ks⟩:=fun k hk=>by
    obtain⟨_,_,y,y1,y2,y3,y4⟩:=a5.ok k hk
    exact⟨y,y1,y2,by show y.h+1=h+1;omega,y4⟩
   have hnd2:Q7 ρ1 (.inn (h+1) rs)=⟨h+1,[],some ks⟩:=by rw[Q7,a2]
   have hrun:RunOk [⟨rx,.inn (h+1) rs⟩] r1 ρ1 (r1.add ⟨h+1,[],some ks⟩) (ZOR ρ1 rx r1.next) [r1.next]:=by
    have:=RunOk.cons (it:=⟨rx,.inn (h+1) rs⟩) (ρ:=ρ1) hn (by rw[hnd2];exact hx) (by rw[hnd2];exact hki) .nil
    rw[hnd2]at this;exact this
   refine⟨ZOR ρ1 rx r1.next,a1.append hrun,?_,fun k hk=>?_,a4.trans (.one a4.ok hn a4.good hx hki (fun k hk=>(a5.ok k hk).2.1)),⟨?_,rfl,⟨(⟨h+1,[],some ks⟩:Nd).copy,?_,hx.copy,rfl,?_⟩,?_⟩⟩
   ·simp only[ZOR,if_true,hρ,Ro.wr,a5.m]
   ·rw[List.map_append,List.mem_append,not_or]at hk
    have:k≠rx:=fun q=>hk.2 (by simp[q])
    simp only[ZOR,if_neg this];exact a3 k hk.1
   ·rw[Zf5]
    show QI (ks.map Kid.m)=_
    rw[a5.m]
   ·rw[ZFg a4.ok hn,if_pos rfl]
   ·rw[Zf5,<- a5.m];rfl
   ·show Qd _ (h+1) r1.next=_
    rw[Qd,ZFg a4.ok hn,if_pos rfl,Tr.txt,if_pos rfl,Tr.txtO,<- a5.txt]
    show (ks.flatMap fun k=>Qd (r1.add _).nodes h k.at_)=_
    have key:∀m:List Kid,(∀k∈m,k∈ks)->(m.flatMap fun k=>Qd (r1.add ⟨h+1,[],some ks⟩).nodes h k.at_)=m.flatMap fun k=>Qd r1.nodes h k.at_:=by
     intro m
     induction m with
     | nil=>intro _;rfl
     | cons k m ih2 =>
      intro q
      obtain⟨_,_,y,y1,y2,y3,y4⟩:=a5.ok k (q k (by simp))
      rw[List.flatMap_cons,List.flatMap_cons,ZI5 a4.good (ZOQ a4.ok hn _) h k.at_ y y1 y3,ih2 (fun w hw=>q w (by simp[hw]))]
    exact key ks fun _ h=>h
theorem ClsOk.get{F:List (Nat × Blk)}{cs:LV}{is:List It}(h:ClsOk n ip F cs is):∀ {j:Nat} {it:It},is[j]?=some it->∃c,cs[j]?=some c/\ClOk n ip F c it:=by
 induction h with
 | nil=>intro j it hj;simp at hj
 | cons hc ht ih =>
  intro j it hj
  cases j with
  | zero =>
   simp only[List.getElem?_cons_zero,oJ]at hj;subst hj;exact⟨_,rfl,hc⟩
  | succ j=>exact ih hj
def TdOk(st:St)(n tx ver j:Nat)(cls:LV)(td:AV):Prop:=(cls=[]/\td=.nils)\/(cls≠[]/\td=.ref n tx ver j (cls.length-j)/\st.get n tx=some (.arr 1 ver cls))
structure PenS(st:St)(n ip tx ver la b:Nat)(cls:LV)(its:List It)(F:List (Nat × Blk))(keys:List Nat)(rx:Nat)(ρ:Nat->Ro)(j:Nat):Prop where
 wr:st.wr n
 pen:∃td,st.get n ip=some (.arr 3 0 [.agg [.ptr la (b+5) 0 0 0,td,.ptr n rx 0 0 0]])/\TdOk st n tx ver j cls td
 cl:ClsOk n ip F cls its
 fx:∀p∈F,st.get n p.1=some p.2
 rts:∀k∈keys,st.get n k=some (.arr 5 0 [(ρ k).av])
 key:∀it∈its,it.rx∈keys/\∀k∈ZjZ it.c,k∈keys
 rk:rx∈keys
 s1:∀k∈keys,k≠ip/\k≠tx
 s2:tx≠ip
 s3:∀p∈F,p.1∉keys/\p.1≠ip/\p.1≠tx
 ar:∀i,i=ip\/(cls≠[]/\i=tx)\/i∈keys\/(∃p∈F,i=p.1)->¬ (n=la/\b<=i/\i<=b+5)
 len:cls.length<1000000
 jl:j<=cls.length
theorem Zry{b:Nat}{its:List It}{F:List (Nat × Blk)}{keys:List Nat}{ρ:Nat->Ro}(h:PenS st n ip tx ver la b cls its F keys rx ρ j)(hj:j=cls.length):S Tb ZBR [.ptr n ip 0 0 0] st=some (.tup [(ρ rx).av,.int .i64 0],st):=by
 obtain⟨td,h1,h2⟩:=h.pen;have h3:=h.rts rx h.rk
 refine QK Y (fun A hA=>?_)
 have g1:=fun L=>ZX hA (ro:=false) (L:=L) h1
 have g3:=fun L=>ZX hA (ro:=false) (L:=L) h3
 unfold Ro.av at g3 ⊢
 rcases h2 with⟨_,rfl⟩|⟨_,rfl,_⟩
 all_goals repeat'(first|refine ZE ?_|refine ZD ?_|refine ZG Y ?_|refine ZU Y Y ?_|refine ZB Y ?_|refine ZC ?_|refine Z5 Y Y ?_|refine JZ Y ?_|refine Jx Y ?_|(refine cm0 Y Y Y ?_ ?_<;>intro _<;>try omega)|refine ZH Y ?_|refine Ju Y Y Y Y ?_|refine Ze Y Y Y ?_|refine Zr Y Y Y Y Y Y ?_|refine Z9 Y (g1 _) Y Y ?_|refine Z9 Y (g3 _) Y Y ?_|refine ZI ?_|refine ZQ ?_|refine ZO ?_)
 all_goals try omega
 all_goals refine XW hA (by simp) Y Y Y Y Y ?_
 all_goals rfl
def ZFi(st:St)(n ip tx ver la b:Nat)(len:Nat)(rx:Nat)(r':AR)(k:Nat)(ro:Ro)(j:Nat):St :=
 ((Qe st la b r').upd n k (.arr 5 0 [ro.av])).upd n ip (.arr 3 0 [.agg [.ptr la (b+5) 0 0 0,.ref n tx ver (j+1) (len-j-1),.ptr n rx 0 0 0]])
theorem PenS.step{b:Nat}{its:List It}{F:List (Nat × Blk)}{keys:List Nat}{ρ:Nat->Ro}(h:PenS st n ip tx ver la b cls its F keys rx ρ j){r:AR}(hA:Has st la b r)(ho:AROk r)(hn:0<r.n)(hj:its[j]?=some it)
 (hx:NdOk (Q7 ρ it.c)) (hk:ZRj r.nodes (Q7 ρ it.c)) :
 S Tb Xp [.ptr n ip 0 0 0] st=some (.tup [.int .u64 r.next,.bool (decide (cls.length=j+1)),.int .i64 0],ZFi st n ip tx ver la b cls.length rx (r.add (Q7 ρ it.c)) it.rx ((ρ it.rx).wr r.next) j) /\
 PenS (ZFi st n ip tx ver la b cls.length rx (r.add (Q7 ρ it.c)) it.rx ((ρ it.rx).wr r.next) j) n ip tx ver la b cls its F keys rx (ZOR ρ it.rx r.next) (j+1) /\
 Has (ZFi st n ip tx ver la b cls.length rx (r.add (Q7 ρ it.c)) it.rx ((ρ it.rx).wr r.next) j) la b (r.add (Q7 ρ it.c)):=by
 obtain⟨td,h1,h2⟩:=h.pen;obtain⟨cl,c1,c2⟩:=h.cl.get hj;have hjl:=(List.getElem?_eq_some_iff.1 c1).1;have hm:=jM hj;obtain⟨k1,k2⟩:=h.key it hm;have hrx:=h.rts it.rx k1;have hrp:=h.s1 it.rx k1
 have hne:cls≠[]:=fun q=>by rw[q]at c1;simp at c1
 rcases h2 with⟨q,_⟩|⟨_,rfl,h3⟩
 ·exact absurd q hne
 have hS:=Zrx (it:=it) (ρ:=ρ) (b0:=0) (b1:=0) (b2:=0) (cv:=.nils) h3 c1 c2 h.len h1 h.fx (fun k hk=>h.rts k (k2 k hk)) hrx hA ho hn hx hk h.wr (fun i hi=>h.ar i (by
  rcases hi with rfl|rfl|rfl|q
  ·exact .inr (.inr (.inl k1))
  ·exact .inl Y
  ·exact .inr (.inl ⟨hne,rfl⟩)
  ·exact .inr (.inr (.inr q)))) ⟨hrp.1,hrp.2,h.s2⟩
 have a1:∀i,¬ (n=la/\b<=i/\i<=b+5)->(Qe st la b (r.add (Q7 ρ it.c))).get n i=st.get n i:=fun i hi=>hA.out _ hi
 have g1:∀l' i',((Qe st la b (r.add (Q7 ρ it.c))).upd n it.rx (.arr 5 0 [((ρ it.rx).wr r.next).av])).get l' i'=if l'=n/\i'=it.rx then some (.arr 5 0 [((ρ it.rx).wr r.next).av]) else (Qe st la b (r.add (Q7 ρ it.c))).get l' i' :=
  fun l' i'=>St.get_upd ((a1 _ (h.ar _ (.inr (.inr (.inl k1))))).trans hrx) rfl
 have hp0:((Qe st la b (r.add (Q7 ρ it.c))).upd n it.rx (.arr 5 0 [((ρ it.rx).wr r.next).av])).get n ip=_:=(g1 n ip).trans ((if_neg (fun q=>hrp.1 q.2.symm)).trans ((a1 _ (h.ar _ (.inl rfl))).trans h1))
 have g2:∀l' i',(ZFi st n ip tx ver la b cls.length rx (r.add (Q7 ρ it.c)) it.rx ((ρ it.rx).wr r.next) j).get l' i'=if l'=n/\i'=ip then some (.arr 3 0 [.agg [.ptr la (b+5) 0 0 0,.ref n tx ver (j+1) (cls.length-j-1),.ptr n rx 0 0 0]]) else if l'=n/\i'=it.rx then some (.arr 5 0 [((ρ it.rx).wr r.next).av]) else (Qe st la b (r.add (Q7 ρ it.c))).get l' i':=fun l' i'=>by
  rw[ZFi,St.get_upd hp0 rfl,g1]
 have hw1:(Qe st la b (r.add (Q7 ρ it.c))).wr n:=ZN9 hA.cl.wr h.wr;have hwl:(Qe st la b (r.add (Q7 ρ it.c))).wr la:=(hA.put _).wr
 have hw2:∀ {l:Nat},(Qe st la b (r.add (Q7 ρ it.c))).wr l->(ZFi st n ip tx ver la b cls.length rx (r.add (Q7 ρ it.c)) it.rx ((ρ it.rx).wr r.next) j).wr l:=fun w=>St.wr_upd (St.wr_upd hw1 hw1) (St.wr_upd hw1 w)
 refine⟨hS,⟨hw2 hw1,⟨_,by rw[g2,if_pos ⟨rfl,rfl⟩,Nat.sub_sub],.inr ⟨hne,rfl,?_⟩⟩,h.cl,fun p hp=>?_,fun k hk=>?_,h.key,h.rk,h.s1,h.s2,h.s3,h.ar,h.len,hjl⟩,?_⟩
 ·rw[g2,if_neg (fun q=>h.s2 q.2),if_neg (fun q=>hrp.2 q.2.symm),a1 _ (h.ar _ (.inr (.inl ⟨hne,rfl⟩)))];exact h3
 ·obtain⟨q1,q2,q3⟩:=h.s3 p hp
  rw[g2,if_neg (fun q=>q2 q.2),if_neg (fun q=>q1 (by rw[q.2];exact k1)),a1 _ (h.ar _ (.inr (.inr (.inr ⟨p,hp,rfl⟩))))];exact h.fx p hp
 ·obtain⟨q1,q2⟩:=h.s1 k hk
  rw[g2,if_neg (fun q=>q1 q.2)]
  unfold ZOR
  by_cases e:k=it.rx
  ·subst e;rw[if_pos ⟨rfl,rfl⟩,if_pos rfl]
  ·rw[if_neg (fun q=>e q.2),if_neg e,a1 _ (h.ar _ (.inr (.inr (.inl hk))))];exact h.rts k hk
 ·have hP:=hA.put (r.add (Q7 ρ it.c))
  have n1:∀i,b<=i->i<=b+5->¬ (la=n/\i=ip)/\¬ (la=n/\i=it.rx):=fun i i1 i2=>⟨fun q=>h.ar ip (.inl rfl) ⟨q.1.symm,by omega,by omega⟩,fun q=>h.ar it.rx (.inr (.inr (.inl k1))) ⟨q.1.symm,by omega,by omega⟩⟩
  have gg:∀i,b<=i->i<=b+5->(ZFi st n ip tx ver la b cls.length rx (r.add (Q7 ρ it.c)) it.rx ((ρ it.rx).wr r.next) j).get la i=(Qe st la b (r.add (Q7 ρ it.c))).get la i:=fun i i1 i2=>by
   rw[g2,if_neg (n1 i i1 i2).1,if_neg (n1 i i1 i2).2]
  exact⟨hw2 hwl,(gg _ (by omega) (by omega)).trans hP.h0,(gg _ (by omega) (by omega)).trans hP.h1,(gg _ (by omega) (by omega)).trans hP.h2,(gg _ (by omega) (by omega)).trans hP.h3,(gg _ (by omega) (by omega)).trans hP.h4,(gg _ (by omega) (by omega)).trans hP.h5⟩
theorem ZER{L:List Blk}{lv:Nat}{b:Blk}(T:List Blk)(h:St.get ⟨A,ro,L⟩ lv ix=some b):St.get ⟨A,ro,L++T⟩ lv ix=some b:=by
 unfold St.get at h ⊢
 simp only at h ⊢
 split
 ·rename_i q
  rw[if_pos q]at h;have h2:=(ZA6 h).1;rw[jL (List.getElem?_eq_some_iff.1 h2).1];exact h
 ·rename_i q
  rw[if_neg q]at h;exact h
theorem HasR.app{L:List Blk}{b:Nat}{r:AR}(h:HasR ⟨A,ro,L⟩ la b r)(T:List Blk):HasR ⟨A,ro,L++T⟩ la b r :=
 ⟨ZER T h.h0,ZER T h.h1,ZER T h.h2,ZER T h.h3,ZER T h.h4,ZER T h.h5⟩
mutual
theorem AddT.keys:∀ {t:Tr} {rx:Nat} {its:List It} {R:List (Nat × Ro)},AddT t rx its R->rx∈R.map Prod.fst/\∀it∈its,it.rx∈R.map Prod.fst/\∀k∈ZjZ it.c,k∈R.map Prod.fst
 | _,_,_,_,.kept h0=>⟨by simp,fun it h=>by simp at h⟩
 | _,_,_,_,.leaf=>⟨by simp,fun it h=>by simp only[List.mem_singleton]at h;subst h;exact⟨by simp,fun k hk=>by simp[ZjZ]at hk⟩⟩
 | _,_,_,_,.inner hl hn hx=>by
  obtain⟨h1,h2⟩:=AddL.keys hl
  refine⟨by simp,fun it h=>?_⟩
  rcases List.mem_append.1 h with q|q
  ·obtain⟨a1,a2⟩:=h2 it q
   exact⟨by rw[List.map_append];exact List.mem_append_left _ a1,fun k hk=>by rw[List.map_append];exact List.mem_append_left _ (a2 k hk)⟩
  ·simp only[List.mem_singleton]at q
   subst q
   exact⟨by simp,fun k hk=>by rw[List.map_append];exact List.mem_append_left _ (h1 k hk)⟩
theorem AddL.keys:∀ {l:List Tr} {rs:List Nat} {its:List It} {R:List (Nat × Ro)},AddL l rs its R->(∀r∈rs,r∈R.map Prod.fst)/\∀it∈its,it.rx∈R.map Prod.fst/\∀k∈ZjZ it.c,k∈R.map Prod.fst
 | _,_,_,_,.nil=>⟨fun r h=>by simp at h,fun it h=>by simp at h⟩
 | _,_,_,_,.cons ht hl=>by
  obtain⟨a1,a2⟩:=ht.keys;obtain⟨b1,b2⟩:=hl.keys
  refine⟨fun r h=>?_,fun it h=>?_⟩
  ·rw[List.map_append]
   rcases List.mem_cons.1 h with rfl|q
   ·exact List.mem_append_left _ a1
   ·exact List.mem_append_right _ (b1 r q)
  ·rw[List.map_append]
   rcases List.mem_append.1 h with q|q
   ·exact⟨List.mem_append_left _ (a2 it q).1,fun k hk=>List.mem_append_left _ ((a2 it q).2 k hk)⟩
   ·exact⟨List.mem_append_right _ (b2 it q).1,fun k hk=>List.mem_append_right _ ((b2 it q).2 k hk)⟩
end
def Zrz(R:List (Nat × Ro))(k:Nat):Ro:=((R.find? fun p=>p.1 == k).map Prod.snd).getD .zero
theorem Zf6:∀ {R:List (Nat × Ro)},(R.map Prod.fst).Nodup->∀p∈R,Zrz R p.1=p.2
 | [],_,p,hp=>by simp at hp
 | q::R,hn,p,hp=>by
  rw[jC,List.nodup_cons]at hn;unfold Zrz;rw[List.find?_cons]
  rcases List.mem_cons.1 hp with rfl|w
  ·simp
  ·have:q.1≠p.1:=fun e=>hn.1 (by rw[e];exact List.mem_map.2 ⟨p,w,rfl⟩)
   rw[show (q.1 == p.1)=false by simp[this]]
   exact Zf6 hn.2 p w
def PI(t:Tr)(its:List It)(rx:Nat)(ρ:Nat->Ro):Prop:=(IsEmpty t/\its=[]/\ρ rx=.zero)\/(∃N,Val N t)/\∃R,AddT t rx its R/\(∀p∈R,ρ p.1=p.2)/\(R.map Prod.fst).Nodup
def nw(t:Tr):Nat:=if t.old=0/\t.h=0/\t.text=[] then 0 else t.cnt
theorem ZFj{N:ZJ}{t:Tr}(hv:Val N t):nw t=t.cnt:=by
 unfold nw
 cases hv with
 | kept h0=>rw[if_neg];simp[Tr.old,h0]
 | leaf h1=>rw[if_neg];rintro⟨_,_,q⟩;simp only[Tr.text]at q;rw[q]at h1;simp at h1
 | inner=>rw[if_neg];simp[Tr.h]
structure Begun(A:List (Bool × List Blk))(L L2:List Blk)(la b:Nat)(t:Tr)(tx ver:Nat)(cs:LV)(its:List It)(F:List (Nat × Blk))(keys:List Nat)(rx:Nat)(ρ:Nat->Ro):Prop where
 ps:PenS ⟨A,false,L2⟩ A.length (L.length+1) tx ver la b cs its F keys rx ρ 0
 len:L.length+2<=L2.length
 old:∀i,i<L.length->L2[i]?=L[i]?
 klo:∀k∈keys,L.length+2<=k
 flo:∀p∈F,L.length+2<=p.1
 tlo:cs≠[]->L.length+2<=tx
 pi:PI t its rx ρ
theorem Zlq{N:ZJ}{A:List (Bool × List Blk)}{L:List Blk}{la b:Nat}{r:AR}(hA:HasR ⟨A,false,L⟩ la b r)(hN:r.n<=r.blk.length)(h16:r.states.length<=16384)(h6:r.n<65536){t:Tr}(hv:Val r.nodes t)(hb:t.bytes<=65536)(hn:t.cnt<=r.n):
 ∃L2 tx ver cs its F keys rx ρ,S Tb XQ [.ptr la (b+5) 0 0 0,t.av] ⟨A,false,L⟩=some (.tup [.ptr A.length (L.length+1) 0 0 0,.int .i64 0],⟨A,false,L2⟩)/\Begun A L L2 la b t tx ver cs its F keys rx ρ:=by
 have hCk:=fun T=>ZRc (hA.app T).rd hv hb
 have hNw:=fun st=>ZrJ hv (by omega) st
 have hSt:=fun T=>Zf4 (hA.app T) hN h16 h6
 unfold AR.statsAV at hSt;obtain⟨T,hT⟩:∃T:List Blk,T=[.arr 7 0 [t.av],.arr 3 0 [.agg [.ptr la (b+5) 0 0 0,.nils,.nilptr]]]:=⟨_,rfl⟩
 have hTl:T.length=2:=by rw[hT];rfl
 have hip:(L++T)[L.length+1]?=some (.arr 3 0 [.agg [.ptr la (b+5) 0 0 0,.nils,.nilptr]]):=by rw[Qv,hT];rfl
 have hP:Pen A (L++T) (L.length+1) (.ptr la (b+5) 0 0 0) .nils []:=⟨⟨_,hip⟩,.inl ⟨rfl,rfl⟩⟩
 obtain⟨L1,td1,rx,its,cs,R,F,hS,ha⟩:=Zsi hv hb hP (by simp;omega)
 obtain⟨⟨rp,p1⟩,p2⟩:=ha.pen;rw[lE]at p2;have hl1:=ha.frm.len;rw[lL,hTl]at hl1;have hlt1:L.length+1<L1.length:=(List.getElem?_eq_some_iff.1 p1).1
 have hkl:∀k∈R.map Prod.fst,L.length+2<=k:=fun k hk=>by
  obtain⟨p,hp,rfl⟩:=List.mem_map.1 hk
  have:=ha.rlo p hp
  rwa [lL,hTl]at this
 have hfl:∀p∈F,L.length+2<=p.1:=fun p hp=>by
  have:=ha.flo p hp
  rwa [lL,hTl]at this
 have hg:∀i,i≠L.length+1->∀B,(L1.set (L.length+1) B)[i]?=L1[i]?:=fun i hi B=>jS (fun q=>hi q.symm)
 obtain⟨q1,q2⟩:=ha.tr.keys
 have hbl:la=A.length->b+5<L.length:=fun e=>by
  have:=hA.h5
  subst e;rw[St.get_cur]at this;exact (List.getElem?_eq_some_iff.1 (ZA6 this).1).1
 -- where the list lies
 obtain⟨tx,ver,t1,t2,t3⟩:∃tx ver,(cs=[]/\td1=.nils/\tx=L.length\/cs≠[]/\td1=.ref A.length tx ver 0 cs.length/\L1[tx]?=some (.arr 1 ver cs)/\L.length+2<=tx/\YW (L.length+1) td1 tx)/\tx≠L.length+1/\(∀k,L.length+2<=k->¬ YW (L.length+1) td1 k->k≠tx):=by
  rcases p2 with⟨e1,e2⟩|⟨tx,ver,e1,e2,e3,e4⟩
  ·exact⟨L.length,0,.inl ⟨e2,e1,rfl⟩,by omega,fun k hk _=>by omega⟩
  ·have hX:YW (L.length+1) td1 tx:=.inr ⟨_,_,_,_,e1⟩
   refine⟨tx,ver,.inr ⟨e4,e1,e2,?_,hX⟩,e3,fun k hk hn q=>hn (by rw[q];exact hX)⟩
   rcases ha.frm.own tx hX with w|w
   ·rcases w with w|⟨_,_,_,_,w⟩
    ·exact absurd w e3
    ·simp at w
   ·rwa [lL,hTl]at w
 refine⟨L1.set (L.length+1) (.arr 3 0 [.agg [.ptr la (b+5) 0 0 0,td1,.ptr A.length rx 0 0 0]]),tx,ver,cs,its,F,R.map Prod.fst,rx,Zrz R,ZAM Y ?_,⟨⟨by simp[St.wr],⟨td1,by rw[St.get_cur,List.getElem?_set_self hlt1];rfl,?_⟩,ha.cl,?_,?_,q2,q1,?_,t2,?_,?_,?_,Nat.zero_le _⟩,by rw[List.length_set];omega,?_,hkl,hfl,fun hc=>(by
  rcases t1 with⟨w,_⟩|⟨_,_,_,w,_⟩
  ·exact absurd w hc
  ·exact w),.inr ⟨⟨_,hv⟩,R,ha.tr,Zf6 ha.nd,ha.nd⟩⟩⟩
 ·have e0:(⟨A,false,L⟩:St)=⟨A,false,L++[]⟩:=by rw[lN]
  rw[e0];rw[hT]at hS
  repeat'(first|refine Yx Y (Z0 _) (QA _) Y Y ?_|refine Yx Y Y Y Y Y ?_|refine ZAe Y Y Y (Zk _) ?_|refine ZE ?_|refine ZD ?_|refine ZG Y ?_|refine ZU Y Y ?_|refine ZB Y ?_|refine ZC ?_|refine ZWs (agg:=false) Y Y ?_|refine Z5 Y Y ?_|(refine cm0 Y Y Y ?_ ?_<;>intro _<;>try omega)|(refine cm0 Y Y Y ?_ ?_<;>intro _<;>try omega)|refine ZH Y ?_|refine Zq Y Y Y ?_|refine ZA Y Y (by first|rfl|(simp only[lE,lN,lC,ZY,ZS,ZV];first|done|rfl)) (hCk _) ?_|refine ZA Y Y (by first|rfl|(simp only[lE,lN,lC,ZY,ZS,ZV];first|done|rfl)) (hNw _) ?_|refine ZA Y Y (by first|rfl|(simp only[lE,lN,lC,ZY,ZS,ZV];first|done|rfl)) (hSt _) ?_|refine ZA Y Y (by first|rfl|(simp only[lE,lN,lC,ZY,ZS,ZV];first|done|rfl)) (hS) ?_|refine ZI ?_)
  all_goals try omega
  refine Q0 p1 Y Y Y ?_ Y ?_
  ·simp only[ZZ,QF,if_pos (Nat.lt_succ_self _)]
  repeat'(first|refine ZE ?_|refine ZD ?_|refine ZG Y ?_|refine ZB Y ?_|refine ZC ?_|refine ZQ ?_|refine ZO ?_)
  refine (YO (.inr Y) Y Y Y Y).trans ?_;rfl
 ·rcases t1 with⟨e1,e2,e3⟩|⟨e0,e1,e2,e3⟩
  ·exact .inl ⟨e1,e2⟩
  ·exact .inr ⟨e0,e1,by rw[St.get_cur,hg _ t2,e2];rfl⟩
 ·intro p hp
  obtain⟨f1,f2⟩:=ha.fx p hp;obtain⟨w,v,es,f3,f4⟩:=ha.fw p hp
  have:p.1≠L.length+1:=fun q=>f2 (.inl q)
  rw[St.get_cur,hg _ this,f1,f3];rfl
 ·intro k hk
  obtain⟨p,hp,rfl⟩:=List.mem_map.1 hk;obtain⟨f1,f2⟩:=ha.rts.get hp
  have:p.1≠L.length+1:=fun q=>f2 (.inl q)
  rw[St.get_cur,hg _ this,f1,Zf6 ha.nd p hp];rfl
 ·intro k hk
  have h1:=hkl k hk;obtain⟨p,hp,rfl⟩:=List.mem_map.1 hk
  exact⟨by omega,t3 _ h1 (ha.rts.get hp).2⟩
 ·intro p hp
  obtain⟨f1,f2⟩:=ha.fx p hp;obtain⟨w,v,es,f3,f4⟩:=ha.fw p hp;have h1:=hfl p hp
  refine⟨fun q=>?_,by omega,t3 _ h1 f2⟩
  obtain⟨u,hu,e⟩:=List.mem_map.1 q;have f5:=(ha.rts.get hu).1;rw[e,f1,f3]at f5;simp only[oJ,Blk.arr.injEq]at f5;exact f4 f5.1
 ·intro i hi ⟨e1,e2,e3⟩
  have:=hbl e1.symm
  rcases hi with rfl|⟨c1,rfl⟩|q|⟨p,hp,rfl⟩
  ·omega
  ·rcases t1 with⟨w,_⟩|⟨_,_,_,w,_⟩
   ·exact c1 w
   ·omega
  ·have:=hkl i q;omega
  ·have:=hfl p hp;omega
 ·have h1:=ha.cl.len
  have h2:=ha.tr.cnt;omega
 ·intro i hi
  rw[hg i (by omega),ha.frm.old i (by rw[lL];omega) (fun q=>?_),jL hi]
  rcases q with q|⟨_,_,_,_,q⟩
  ·omega
  ·simp at q
theorem Zf7{A:List (Bool × List Blk)}{ro:Bool}{L:List Blk}{i:Nat}{b:Blk}(h:L[i]?=some b)(hv:vis (some b)=some b):St.get ⟨A,ro,L⟩ A.length i=some b:=by rw[St.get_cur,h,hv]
theorem Zlr{t:Tr}(ht:IsEmpty t)(st:St):S Tb ZAt [t.av] st=some (.int .i64 (0:Nat),st) :=
 ZRi (c:=1) ht.ks (fun st=>ZC8 t ht st) st
theorem Zht{A:List (Bool × List Blk)}{L:List Blk}{la b:Nat}{r:AR}(hA:HasR ⟨A,false,L⟩ la b r)(hN:r.n<=r.blk.length)(h16:r.states.length<=16384)(h6:r.n<65536){t:Tr}(ht:IsEmpty t):
 ∃L2 tx ver cs its F keys rx ρ,S Tb XQ [.ptr la (b+5) 0 0 0,t.av] ⟨A,false,L⟩=some (.tup [.ptr A.length (L.length+1) 0 0 0,.int .i64 0],⟨A,false,L2⟩)/\Begun A L L2 la b t tx ver cs its F keys rx ρ:=by
 have hCk:=fun T=>ZSD (st:=⟨A,false,L++T⟩) (lv:=la) (ix:=b+5) ht
 have hNw:=fun st=>Zlr ht st
 have hSt:=fun T=>Zf4 (hA.app T) hN h16 h6
 unfold AR.statsAV at hSt
 have hbl:la=A.length->b+5<L.length:=fun e=>by
  have:=hA.h5
  subst e;rw[St.get_cur]at this;exact (List.getElem?_eq_some_iff.1 (ZA6 this).1).1
 obtain⟨T,hT⟩:∃T:List Blk,T=[.arr 7 0 [t.av],.arr 3 0 [.agg [.ptr la (b+5) 0 0 0,.nils,.nilptr]]]:=⟨_,rfl⟩
 have hadd:S Tb Qs [.ptr A.length (L.length+1) 0 0 0,t.av] ⟨A,false,L++T⟩=some (.ptr A.length ((L++T).length+1) 0 0 0,⟨A,false,(L++T)++[.arr 7 0 [t.av],.arr 5 0 [Ro.zero.av]]⟩):=by
  refine ZAM Y ?_
  have e0:(⟨A,false,L++T⟩:St)=⟨A,false,(L++T)++[]⟩:=by rw[lN]
  rw[e0];generalize L++T=L0;obtain⟨o,h,m,s,k⟩:=t;obtain⟨h1,h2,h3,h4,h5⟩:=ht;simp only[Tr.old,Tr.h,Tr.m,Tr.text,Tr.ks]at h1 h2 h3 h4 h5;subst h1 h2 h3 h4
  obtain⟨ka,hka,hka2⟩:∃ka,Tr.avO k=ka/\(ka=.nils\/ka=.lit []):=by
   cases k with
   | none=>exact⟨_,rfl,.inl Y⟩
   | some l=>have:l=[]:=h5;subst this;exact⟨_,rfl,.inr Y⟩
  simp only[Tr.av,Mea.zero,hka]at *
  rcases hka2 with rfl|rfl
  all_goals repeat'(first|refine Yx Y Y Y Y Y ?_|refine ZAe Y Y Y Y ?_|refine ZE ?_|refine ZD ?_|refine ZG Y ?_|refine ZU Y Y ?_|refine QE Y ?_|refine Zo Y Y Y Y ?_|refine ZB Y ?_|refine ZC ?_|refine ZAN Y Y ?_|refine Jx Y ?_|(refine cm0 Y Y Y ?_ ?_<;>intro _<;>try omega)|(refine Yt Y Y (fun _=>?_) (fun _=>?_)<;>try contradiction)|refine ZW Y ?_|refine Zq Y Y Y ?_|refine ZI ?_|refine ZQ ?_|refine ZL ?_|refine ZO ?_|refine Zz ?_)
  all_goals try first|contradiction|omega
  all_goals refine (YO (.inr Y) Y Y Y Y).trans ?_
  all_goals rfl
 have hTl:T.length=2:=by rw[hT];rfl
 have hl2:(L++T).length=L.length+2:=by rw[lL,hTl]
 rw[hl2]at hadd
 have p1:((L++T)++[Blk.arr 7 0 [t.av],Blk.arr 5 0 [Ro.zero.av]])[L.length+1]?=some (.arr 3 0 [.agg [.ptr la (b+5) 0 0 0,.nils,.nilptr]]):=by
  rw[List.append_assoc,Qv,hT];rfl
 refine⟨((L++T)++[Blk.arr 7 0 [t.av],Blk.arr 5 0 [Ro.zero.av]]).set (L.length+1) (Blk.arr 3 0 [.agg [.ptr la (b+5) 0 0 0,.nils,.ptr A.length (L.length+3) 0 0 0]]),L.length,0,[],[],[],[L.length+3],L.length+3,fun _=>.zero,ZAM Y ?_,⟨⟨by simp[St.wr],⟨.nils,?_,.inl ⟨rfl,rfl⟩⟩,.nil,fun p hp=>by simp at hp,fun k hk=>?_,fun it hi=>by simp at hi,by simp,fun k hk=>?_,by omega,fun p hp=>by simp at hp,fun i hi=>?_,by simp,Nat.zero_le _⟩,by simp,fun i hi=>?_,fun k hk=>?_,fun p hp=>by simp at hp,fun hc=>absurd rfl hc,.inl ⟨ht,rfl,rfl⟩⟩⟩
 ·have e0:(⟨A,false,L⟩:St)=⟨A,false,L++[]⟩:=by rw[lN]
  rw[e0];rw[hT]at hadd p1 ⊢
  repeat'(first|refine Yx Y (Z0 _) (QA _) Y Y ?_|refine Yx Y Y Y Y Y ?_|refine ZAe Y Y Y (Zk _) ?_|refine ZE ?_|refine ZD ?_|refine ZG Y ?_|refine ZU Y Y ?_|refine ZB Y ?_|refine ZC ?_|refine ZWs (agg:=false) Y Y ?_|refine Z5 Y Y ?_|(refine cm0 Y Y Y ?_ ?_<;>intro _<;>try omega)|(refine cm0 Y Y Y ?_ ?_<;>intro _<;>try omega)|refine ZH Y ?_|refine Zq Y Y Y ?_|refine ZA Y Y (by first|rfl|(simp only[lE,lN,lC,ZY,ZS,ZV];first|done|rfl)) (hCk _) ?_|refine ZA Y Y (by first|rfl|(simp only[lE,lN,lC,ZY,ZS,ZV];first|done|rfl)) (hNw _) ?_|refine ZA Y Y (by first|rfl|(simp only[lE,lN,lC,ZY,ZS,ZV];first|done|rfl)) (hSt _) ?_|refine ZA Y Y (by first|rfl|(simp only[lE,lN,lC,ZY,ZS,ZV];first|done|rfl)) (hadd) ?_|refine ZI ?_)
  all_goals try omega
  refine Q0 p1 Y Y Y ?_ Y ?_
  ·simp only[ZZ,QF,if_pos (Nat.lt_succ_self _)]
  repeat'(first|refine ZE ?_|refine ZD ?_|refine ZG Y ?_|refine ZB Y ?_|refine ZC ?_|refine ZQ ?_|refine ZO ?_)
  refine (YO (.inr Y) Y Y Y Y).trans ?_;rfl
 ·exact Zf7 (List.getElem?_set_self (by simp)) Y
 ·simp only[List.mem_singleton]at hk
  subst hk;refine Zf7 ?_ Y
  rw[jS (by omega),show L.length+3=(L++T).length+1 by rw[hl2],Qv];rfl
 ·simp only[List.mem_singleton]at hk
  omega
 ·rintro⟨e1,e2,e3⟩
  have:=hbl e1.symm
  rcases hi with rfl|⟨c1,rfl⟩|q|⟨p,hp,rfl⟩
  ·omega
  ·exact c1 Y
  ·simp only[List.mem_singleton]at q;omega
  ·simp at hp
 ·rw[jS (by omega),List.append_assoc,jL hi]
 ·simp only[List.mem_singleton]at hk
  omega
theorem Zls{b lv:Nat}(st:St)(h:lv<b):ZZ QF b st (.map lv ix)=some (.map lv ix,st):=by
 simp only[ZZ,QF,if_pos h]
def YH(l:List Nat):List (AV × AV):=l.map fun (h:Nat)=>(AV.int .u64 h,AV.bool true)
theorem Zhu(o:Nat):∀l:List Nat,X8 (.int .u64 o) (YH l)=some (if o∈l then some (.bool true) else none)
 | []=>rfl
 | p::l=>by
  rw[YH,jC,X8]
  show (Option.bind (if IntKind.u64=IntKind.u64 then some ((o:Int) == (p:Int)) else none) fun b=>if b=true then some (some (AV.bool true)) else X8 (.int .u64 o) (YH l))=_
  rw[if_pos rfl,oS,Zhu o l]
  by_cases q:o=p
  ·subst q;simp
  ·rw[if_neg (by simp;omega)]
   simp[q]
theorem ZOS(o:Nat):∀l:List Nat,o∉l->ZCV (.int .u64 o) (.bool true) (YH l)=some (YH (l++[o]))
 | [],_=>rfl
 | p::l,h=>by
  simp only[List.mem_cons,not_or]at h;rw[YH,jC,ZCV]
  show (Option.bind (if IntKind.u64=IntKind.u64 then some ((o:Int) == (p:Int)) else none) fun b=>if b=true then some ((AV.int .u64 o,AV.bool true)::YH l) else (ZCV (.int .u64 o) (.bool true) (YH l)).map ((AV.int .u64 p,AV.bool true)::·))=_
  rw[if_pos rfl,oS,if_neg (by simp;omega),ZOS o l h.2]
  rfl
theorem ZFk{lv:Nat}(hg:st.get lv mx=some (.map (YH l)))(o:Nat):lookV st 0 (.bool false) false (.int .u64 o) (.map lv mx)=some (.bool (decide (o∈l))):=by
 simp only[lookV,Zcu,hg,ZDF,oS,YK,if_true,Zhu]
 by_cases q:o∈l
 ·simp[q,Zcv]
 ·simp[q,Zcv]
def QB(h:Nat):AV:=.int .u64 h
section
variable {O:Orc}{k:List Fr}{Q:J0}{e:Env}{A:List (Bool × List Blk)}{L:List Blk}{keep:List Nat}{is:List QAbs.PI}{d:Nat}
theorem Zqc{s x:Opd}{lv jx w bytes:Nat}{es ys:LV}(hA:A=st.A++[(st.ro,st.L)])(hwr:st.wr lv)(hg:st.get lv jx=some (.arr w ver es))(hs:Zd e s=some (.ref lv jx ver 0 es.length))(hx:Zd e x=some (.lit ys))
 (hw:Q9 w ys=true) (hsl:mapSt (ZZ QF (lv+1)) ⟨A,false,L⟩ ys=some (ys,⟨A,false,L⟩)) (hl:es.length+ys.length<4294967296) (hb:bytes<=4096)
 (h:∀A',A'=(st.upd lv jx (.arr w (ver+1) (es++ys))).A++[((st.upd lv jx (.arr w (ver+1) (es++ys))).ro,(st.upd lv jx (.arr w (ver+1) (es++ys))).L)]->Is O is keep k Q ((d,.ref lv jx (ver+1) 0 (es.length+ys.length))::e) ⟨A',false,L⟩) :
 Is O (⟨some d,none,false,.app w bytes s x⟩::is) keep k Q e ⟨A,false,L⟩:=by
 have hlv:=St.get_le hg;refine Z3 (v:=.ref lv jx (ver+1) 0 (es.length+ys.length)) (st':=St.upd ⟨A,false,L⟩ lv jx (.arr w (ver+1) (es++ys))) ?_ ?_
 ·have hg':=ZX hA (ro:=false) (L:=L) hg
  have hw':=XM hA hlv hwr (ro:=false) (L:=L)
  simp only[Zg,evalPO,ZF hs,ZF hx,elems,oS,JP,hw,if_true,hsl,Zd1,hg',ZKB,true_and,if_pos (show 0+es.length<=es.length/\es.length+ys.length<4294967296/\bytes<=4096 by omega),List.drop_zero]
  rw[List.take_of_length_le (by omega),St.put_upd hw' hg']
  rfl
 ·rw[Jh hA hlv]
  exact h _ Y
end
namespace Tr
mutual
def kwT:Tr->List Nat->List Nat
 | .mk o _ _ _ k,out=>kwO k (if o≠0/\o∉out then out++[o] else out)
def kwO:Option (List Tr)->List Nat->List Nat
 | none,out=>out
 | some l,out=>kwL l out
def kwL:List Tr->List Nat->List Nat
 | [],out=>out
 | t::l,out=>kwL l (kwT t out)
end
mutual
def siz:Tr->Nat
 | .mk _ _ _ _ k=>1+sizO k
def sizO:Option (List Tr)->Nat
 | none=>0
 | some l=>sizL l
def sizL:List Tr->Nat
 | []=>0
 | t::l=>siz t+sizL l
end
theorem kwL_append:∀(a b:List Tr) (out:List Nat),kwL (a++b) out=kwL b (kwL a out)
 | [],b,out=>rfl
 | t::a,b,out=>by rw[lC,kwL,kwL,kwL_append a b]
theorem sizL_append:∀a b,sizL (a++b)=sizL a+sizL b
 | [],b=>by simp[sizL]
 | t::a,b=>by rw[lC,sizL,sizL,sizL_append a b];omega
theorem kwO_getD(k:Option (List Tr))(out:List Nat):kwO k out=kwL (k.getD []) out:=by cases k<;>rfl
theorem sizO_getD(k:Option (List Tr)):sizO k=sizL (k.getD []):=by cases k<;>rfl
theorem kwT_len(t:Tr):∀out,(kwT t out).length<=out.length+t.siz:=by
 induction t using Tr.ind with
 | step o h m s k ih =>
  intro out;rw[kwT,siz,kwO_getD,sizO_getD]
  have key:∀(l:List Tr),(∀t∈l,∀out,(kwT t out).length<=out.length+t.siz)->∀out,(kwL l out).length<=out.length+sizL l:=by
   intro l
   induction l with
   | nil=>intro _ out;simp[kwL,sizL]
   | cons a l ih2 =>
    intro hl out;rw[kwL,sizL]
    have h1:=ih2 (fun t ht=>hl t (by simp[ht])) (kwT a out)
    have h2:=hl a (by simp) out
    omega
  have:=key (k.getD []) ih (if o≠0/\o∉out then out++[o] else out)
  split at this
  ·rename_i q;rw[if_pos q];rw[lL,List.length_singleton]at this;omega
  ·rename_i q;rw[if_neg q];omega
theorem kwL_len:∀(l:List Tr) (out:List Nat),(kwL l out).length<=out.length+sizL l
 | [],out=>by simp[kwL,sizL]
 | t::l,out=>by
  rw[kwL,sizL];have h1:=kwL_len l (kwT t out);have h2:=kwT_len t out;omega
end Tr
structure KS(st:St)(lv mb mx ob ox wb ver:Nat)(out:List Nat):Prop where
 wr:st.wr lv
 hm:st.get lv mb=some (.arr 1 0 [.map lv mx])
 hmx:st.get lv mx=some (.map (YH out))
 ho:st.get lv ob=some (.arr 1 0 [.ref lv ox ver 0 out.length])
 hox:st.get lv ox=some (.arr 1 ver (out.map QB))
 hw:st.get lv wb=some (.arr 1 0 [.func (.func Yo) [] [.ptr lv mb 0 0 0,.ptr lv ob 0 0 0,.ptr lv wb 0 0 0]])
 n1:mx≠ox
 n2:mx≠ob
 n3:ox≠ob
 n4:mb≠mx/\mb≠ox/\mb≠ob
 n5:wb≠mx/\wb≠ox/\wb≠ob
def Jb(st:St)(lv mx ob ox ver:Nat)(out:List Nat):St:=((st.upd lv mx (.map (YH out))).upd lv ox (.arr 1 ver (out.map QB))).upd lv ob (.arr 1 0 [.ref lv ox ver 0 out.length])
theorem KS.get{st:St}{lv mb mx ob ox wb ver:Nat}{out:List Nat}(h:KS st lv mb mx ob ox wb ver out)(v:Nat)(t:List Nat)(l' i':Nat):
 (Jb st lv mx ob ox v t).get l' i'=if l'=lv/\i'=ob then some (.arr 1 0 [.ref lv ox v 0 t.length]) else if l'=lv/\i'=ox then some (.arr 1 v (t.map QB)) else if l'=lv/\i'=mx then some (.map (YH t)) else st.get l' i':=by
 have g1:∀l' i',(st.upd lv mx (.map (YH t))).get l' i'=if l'=lv/\i'=mx then some (.map (YH t)) else st.get l' i':=fun l' i'=>St.get_upd h.hmx rfl
 have b1:(st.upd lv mx (.map (YH t))).get lv ox=some (.arr 1 ver (out.map QB)):=by rw[g1,if_neg (fun q=>h.n1 q.2.symm)];exact h.hox
 have g2:∀l' i',((st.upd lv mx (.map (YH t))).upd lv ox (.arr 1 v (t.map QB))).get l' i'=if l'=lv/\i'=ox then some (.arr 1 v (t.map QB)) else (st.upd lv mx (.map (YH t))).get l' i':=fun l' i'=>St.get_upd b1 rfl
 have b2:((st.upd lv mx (.map (YH t))).upd lv ox (.arr 1 v (t.map QB))).get lv ob=some (.arr 1 0 [.ref lv ox ver 0 out.length]):=by rw[g2,if_neg (fun q=>h.n3 q.2.symm),g1,if_neg (fun q=>h.n2 q.2.symm)];exact h.ho
 rw[Jb,St.get_upd b2 rfl,g2,g1]
theorem KS.put{st:St}{lv mb mx ob ox wb ver:Nat}{out:List Nat}(h:KS st lv mb mx ob ox wb ver out)(v:Nat)(t:List Nat):KS (Jb st lv mx ob ox v t) lv mb mx ob ox wb v t:=by
 refine⟨St.wr_upd (St.wr_upd (St.wr_upd h.wr h.wr) (St.wr_upd h.wr h.wr)) (St.wr_upd (St.wr_upd h.wr h.wr) (St.wr_upd h.wr h.wr)),?_,?_,?_,?_,?_,h.n1,h.n2,h.n3,h.n4,h.n5⟩
 ·rw[h.get,if_neg (fun q=>h.n4.2.2 q.2),if_neg (fun q=>h.n4.2.1 q.2),if_neg (fun q=>h.n4.1 q.2)];exact h.hm
 ·rw[h.get,if_neg (fun q=>h.n2 q.2),if_neg (fun q=>h.n1 q.2),if_pos ⟨rfl,rfl⟩]
 ·rw[h.get,if_pos ⟨rfl,rfl⟩]
 ·rw[h.get,if_neg (fun q=>h.n3 q.2),if_pos ⟨rfl,rfl⟩]
 ·rw[h.get,if_neg (fun q=>h.n5.2.2 q.2),if_neg (fun q=>h.n5.2.1 q.2),if_neg (fun q=>h.n5.1 q.2)];exact h.hw
theorem KS.same{st:St}{lv mb mx ob ox wb ver:Nat}{out:List Nat}(h:KS st lv mb mx ob ox wb ver out):Jb st lv mx ob ox ver out=st:=by
 rw[Jb,upd_same h.hmx,upd_same h.hox,upd_same h.ho]
theorem Zlt{st:St}{lv mx ob ox v1 v2:Nat}{s t:List Nat}(h1:mx≠ox)(h2:mx≠ob)(h3:ox≠ob):Jb (Jb st lv mx ob ox v1 s) lv mx ob ox v2 t=Jb st lv mx ob ox v2 t:=by
 unfold Jb;generalize Blk.map (YH s)=a1;generalize Blk.map (YH t)=a2;generalize Blk.arr 1 v1 (s.map QB)=b1;generalize Blk.arr 1 v2 (t.map QB)=b2;generalize Blk.arr 1 0 [AV.ref lv ox v1 0 s.length]=c1;generalize Blk.arr 1 0 [AV.ref lv ox v2 0 t.length]=c2
 rw[ZOG (st:=(st.upd lv mx a1).upd lv ox b1) (fun q=>h2 q.symm),ZOG (st:=st.upd lv mx a1) (fun q=>h1 q.symm),ZOF,ZOG (st:=(st.upd lv mx a2).upd lv ox b1) (fun q=>h3 q.symm),ZOF,ZOF]
theorem Zja{st:St}{A:List (Bool × List Blk)}{ro:Bool}{L:List Blk}(hA:A=st.A++[(st.ro,st.L)]){lv mx ob ox ver:Nat}{t:List Nat}(hl:lv<=st.A.length):
 Jb ⟨A,ro,L⟩ lv mx ob ox ver t=⟨(Jb st lv mx ob ox ver t).A++[((Jb st lv mx ob ox ver t).ro,(Jb st lv mx ob ox ver t).L)],ro,L⟩:=by
 unfold Jb;rw[Jh hA hl]
 have e2:=fun (b:Blk)=>Jh (st:=st.upd lv mx (.map (YH t))) (A:=(st.upd lv mx (.map (YH t))).A++[((st.upd lv mx (.map (YH t))).ro,(st.upd lv mx (.map (YH t))).L)]) (ro:=ro) (L:=L) (lv:=lv) (ix:=ox) (b:=b) rfl (by rw[St.upd_A];exact hl)
 rw[e2]
 exact Jh Y (by rw[St.upd_A,St.upd_A];exact hl)
theorem KS.push{st:St}{A:List (Bool × List Blk)}{ro:Bool}{L:List Blk}(hA:A=st.A++[(st.ro,st.L)]){lv mb mx ob ox wb ver:Nat}{out:List Nat}(h:KS st lv mb mx ob ox wb ver out):KS ⟨A,ro,L⟩ lv mb mx ob ox wb ver out :=
 ⟨XM hA (St.get_le h.hm) h.wr,ZX hA h.hm,ZX hA h.hmx,ZX hA h.ho,ZX hA h.hox,ZX hA h.hw,h.n1,h.n2,h.n3,h.n4,h.n5⟩
theorem Zqd(st:St)(lv mx ob ox ver:Nat)(out:List Nat):(Jb st lv mx ob ox ver out).A.length=st.A.length:=by
 unfold Jb;rw[St.upd_A,St.upd_A,St.upd_A]
theorem Zqe(t:Tr):t.Pos->∀ {st:St} {lv mb mx ob ox wb ver:Nat} {out:List Nat},KS st lv mb mx ob ox wb ver out->out.length+t.siz<4294967296 ->
 Sp Tb Yo [t.av,.ptr lv mb 0 0 0,.ptr lv ob 0 0 0,.ptr lv wb 0 0 0] st fun v st'=>v=.tup []/\∃ver',st'=Jb st lv mx ob ox ver' (t.kwT out):=by
 induction t using Tr.ind with
 | step o h m s k ih =>
  intro hp st lv mb mx ob ox wb ver out hs hl
  cases hp with
  | mk h0 h4 hk2 =>
  have e1:(Tr.mk o h m s k).kwT out=Tr.kwL (k.getD []) (if o≠0/\o∉out then out++[o] else out):=by rw[Tr.kwT,Tr.kwO_getD]
  have e2:(Tr.mk o h m s k).siz=1+Tr.sizL (k.getD []):=by rw[Tr.siz,Tr.sizO_getD]
  rw[e1];rw[e2]at hl;refine ZnL Y ?_;obtain⟨A,hA⟩:∃A,A=st.A++[(st.ro,st.L)]:=⟨_,rfl⟩;rw[<- hA];have hlv:=St.get_le hs.hm
  have hav:(Tr.mk o h m s k).av=.agg [.int .u64 o,.int .i64 h,.int .i64 m.b,.int .i64 m.r,.int .i64 m.l,.str s,slV Tr.av k]:=by rw[Tr.av,Tr.avO_sl]
  -- the loop over the children
  have key:∀(ver1:Nat) (out1:List Nat) (A1:List (Bool × List Blk)),A1=(Jb st lv mx ob ox ver1 out1).A++[((Jb st lv mx ob ox ver1 out1).ro,(Jb st lv mx ob ox ver1 out1).L)]->out1.length<=out.length+1->∀e:Env,e=[(3,.ptr lv wb 0 0 0),(4,.ptr A.length 0 0 0 0)]\/e=[(1,.ptr lv mb 0 0 0),(2,.ptr lv ob 0 0 0),(3,.ptr lv wb 0 0 0),(4,.ptr A.length 0 0 0 0),(16,.bool false)] ->
   Ru (S Tb) (.seq ZF2 (.block 0 (.loop ZBm))) [] (fun x e st''=>∃v st',JA false ([]:List RV) (x,e,st'')=some (v,st')/\v=.tup []/\∃ver',st'=Jb st lv mx ob ox ver' (Tr.kwL (k.getD []) out1)) e ⟨A1,false,[.arr 7 0 [(Tr.mk o h m s k).av]]⟩:=by
   intro ver1 out1 A1 hA1 hl1 e he
   have hAl:A.length=A1.length:=by rw[hA,hA1];simp[Zqd]
   rw[hAl]at he;rw[hav]
   cases k with
   | none =>
    simp only[slV]
    rcases he with rfl|rfl
    all_goals repeat'(first|refine ZE ?_|refine ZD ?_|refine ZG Y ?_|refine ZU Y Y ?_|refine ZP Y Y Y Y ?_|refine ZB Y ?_|refine ZC ?_|refine Jx Y ?_|(refine cm0 Y Y Y ?_ ?_<;>intro _<;>try omega)|refine ZH Y ?_|refine Qj ?_|refine Zv ?_|refine ZL ?_|refine ZO ?_|refine Zf ?_|refine Zc Y ?_)
    all_goals try omega
    all_goals exact⟨_,_,Zi hA1 (.inl Y) Y Y Y Y Y,rfl,ver1,rfl⟩
   | some l =>
    simp only[Option.getD]at h4 hk2 ih hl ⊢;simp only[slV]
    have hloop:Ru (S Tb) (.loop ZBm) [.blk 0] (fun x e st''=>∃v st',JA false ([]:List RV) (x,e,st'')=some (v,st')/\v=.tup []/\∃ver',st'=Jb st lv mx ob ox ver' (Tr.kwL l out1)) [(3,.ptr lv wb 0 0 0),(26,.lit (l.map Tr.av)),(27,.int .i64 l.length),(28,.int .i64 0)] ⟨A1,false,[.arr 7 0 [.agg [.int .u64 o,.int .i64 h,.int .i64 m.b,.int .i64 m.r,.int .i64 m.l,.str s,.lit (l.map Tr.av)]]]⟩:=by
     refine Z2 (α:=Nat × List Blk × Nat) (fun p=>[(3,.ptr lv wb 0 0 0),(26,.lit (l.map Tr.av)),(27,.int .i64 l.length),(28,.int .i64 p.1)])
      (fun p=>⟨(Jb st lv mx ob ox p.2.2 (Tr.kwL (l.take p.1) out1)).A++[((Jb st lv mx ob ox p.2.2 (Tr.kwL (l.take p.1) out1)).ro,(Jb st lv mx ob ox p.2.2 (Tr.kwL (l.take p.1) out1)).L)],false,.arr 7 0 [.agg [.int .u64 o,.int .i64 h,.int .i64 m.b,.int .i64 m.r,.int .i64 m.l,.str s,.lit (l.map Tr.av)]]::p.2.1⟩)
      (fun p=>p.1<=l.length) (fun p=>l.length-p.1) (0,[],ver1) rfl ?_ (by simp) ?_
     ·simp only[List.take_zero,Tr.kwL,<- hA1]
     rintro⟨i,G,ver2⟩ hi
     simp only at hi ⊢
     have hk3:=hs.put ver2 (Tr.kwL (l.take i) out1)
     have hpp:∀v3 t3,Jb (Jb st lv mx ob ox ver2 (Tr.kwL (l.take i) out1)) lv mx ob ox v3 t3=Jb st lv mx ob ox v3 t3:=fun v3 t3=>Zlt hs.n1 hs.n2 hs.n3
     generalize hs1:Jb st lv mx ob ox ver2 (Tr.kwL (l.take i) out1)=st1 at *
     obtain⟨A2,hA2⟩:∃A2,A2=st1.A++[(st1.ro,st1.L)]:=⟨_,rfl⟩;rw[<- hA2]
     have hgw:=fun L=>ZX hA2 (ro:=false) (L:=L) hk3.hw
     repeat'(first|refine ZE ?_|refine ZD ?_|refine ZB Y ?_|refine ZC ?_|(refine cm0 Y Y Y ?_ ?_<;>intro _<;>try omega)|refine ZW Y ?_|refine ZH Y ?_|refine Zx Y Y Y ?_|refine J9 Y Y (by omega) Z0 (fun _ _=>?_)|refine QH Y (Zk _) ?_|refine YA Y Y Y (Z7 _ _ _) (QQ _ _) Y ?_|refine ZI ?_|refine Zv ?_|refine ZL ?_|refine ZO ?_|refine Zf ?_|refine Zc Y ?_|refine Zu ?_)
     ·rename_i u hu
      have hu2:l[i]?=some u:=hu;have hum:=jM hu2;have hle:lv<=st1.A.length:=St.get_le hk3.hm
      have hsum:Tr.sizL l=Tr.sizL (l.take i)+(u.siz+Tr.sizL (l.drop (i+1))):=by
       conv=>lhs;rw[<- List.take_append_drop (i+1) l,Zb hu2,Tr.sizL_append,Tr.sizL_append]
       simp[Tr.sizL];omega
      have hlen:=Tr.kwL_len (l.take i) out1
      have ihu:=fun L=>ih u hum (hk2 u hum) (hk3.push hA2 (ro:=false) (L:=L)) (by omega)
      have hkw:Tr.kwL (l.take (i+1)) out1=u.kwT (Tr.kwL (l.take i) out1):=by
       rw[Zb hu2,Tr.kwL_append];rfl
      refine Z9 Y (hgw _) Y Y ?_
      repeat'(refine Qr Y Y (Zk _) ?_)
      refine ZVs Y Y (wk4 _ _ _ _ Y Y Y) (ihu _) ?_
      rintro v st' ⟨rfl,v3,rfl⟩
      rw[Zja hA2 hle,hpp,<- hkw]
      repeat'(first|refine ZD ?_|refine ZG Y ?_|refine ZB Y ?_|refine ZC ?_|refine Zm Y Y (by omega) ?_|refine Zz ?_|refine QD ?_)
      exact⟨(i+1,_,v3),⟨rfl,rfl⟩,by simp only;omega,by simp only;omega⟩
     ·have hi':i=l.length:=by omega
      subst hi'
      rw[List.take_length]at *
      exact⟨_,_,Zi hA2 (.inl Y) Y Y Y Y Y,rfl,ver2,hs1.symm⟩
    rcases he with rfl|rfl
    all_goals repeat'(first|exact hloop|refine ZE ?_|refine ZD ?_|refine ZG Y ?_|refine ZU Y Y ?_|refine ZP Y Y Y Y ?_|refine ZB Y ?_|refine ZC ?_|refine QJ Y ?_|refine ZL ?_)
  have hg1:=fun L=>ZX hA (ro:=false) (L:=L) hs.hm
  have hg2:=fun L=>ZX hA (ro:=false) (L:=L) hs.hmx
  have hlk:=fun L=>ZFk (hg2 L) o
  have hkey0:=key ver out A (by rw[hs.same];exact hA) (by omega) _ (.inr Y)
  have hwide:=Z0 (Tr.mk o h m s k);have hforce:=QA (Tr.mk o h m s k);rw[hav]at hwide hforce
  by_cases ho:o=0
  ·subst ho
   rw[if_neg (by simp)]
   rw[hav]at hkey0 ⊢
   repeat'(first|refine Zx Y hwide hforce ?_|exact hkey0|refine ZE ?_|refine ZD ?_|refine ZG Y ?_|refine ZU Y Y ?_|refine ZP Y Y Y Y ?_|refine JW Y Y ?_|refine Zo Y Y Y Y ?_|refine ZB Y ?_|refine ZC ?_|(refine cm0 Y Y Y ?_ ?_<;>intro _<;>try omega)|refine ZH Y ?_|refine ZI ?_)
   all_goals contradiction
  ·by_cases hm:o∈out
   ·rw[if_neg (by simp[hm])]
    rw[hav]at hkey0 ⊢;rw[decide_eq_true hm]at hlk
    repeat'(first|refine Zx Y hwide hforce ?_|exact hkey0|refine ZE ?_|refine ZD ?_|refine ZG Y ?_|refine ZU Y Y ?_|refine ZP Y Y Y Y ?_|refine QE Y ?_|refine Zo Y Y Y Y ?_|refine ZB Y ?_|refine ZC ?_|(refine cm0 Y Y Y ?_ ?_<;>intro _<;>try omega)|refine ZH Y ?_|refine JC Y Y ?_|refine Z9 Y (hg1 _) Y Y ?_|refine Ya Y Y (hlk _) ?_|refine ZI ?_)
    all_goals contradiction
   ·rw[if_pos ⟨ho,hm⟩]
    have hkey:=key (ver+1) (out++[o]);rw[hav]at hkey ⊢;rw[decide_eq_false hm]at hlk
    repeat'(first|refine Zx Y hwide hforce ?_|refine ZE ?_|refine ZD ?_|refine ZG Y ?_|refine ZU Y Y ?_|refine ZP Y Y Y Y ?_|refine QE Y ?_|refine Zo Y Y Y Y ?_|refine ZB Y ?_|refine ZC ?_|(refine cm0 Y Y Y ?_ ?_<;>intro _<;>try omega)|refine ZW Y ?_|refine JC Y Y ?_|refine Z9 Y (hg1 _) Y Y ?_|refine Ya Y Y (hlk _) ?_)
    all_goals try contradiction
    refine Zho hA Y Y Y hs.wr hs.hmx Y (ZOS o out hm) (fun A' hA'=>?_)
    have q1:∀l' i',(st.upd lv mx (.map (YH (out++[o])))).get l' i'=if l'=lv/\i'=mx then some (.map (YH (out++[o]))) else st.get l' i':=fun l' i'=>St.get_upd hs.hmx rfl
    have ka:(st.upd lv mx (.map (YH (out++[o])))).get lv ob=some (.arr 1 0 [.ref lv ox ver 0 out.length]):=by rw[q1,if_neg (fun q=>hs.n2 q.2.symm)];exact hs.ho
    have kb:(st.upd lv mx (.map (YH (out++[o])))).get lv ox=some (.arr 1 ver (out.map QB)):=by rw[q1,if_neg (fun q=>hs.n1 q.2.symm)];exact hs.hox
    have hw1:=St.wr_upd (b:=.map (YH (out++[o]))) (ix:=mx) hs.wr hs.wr
    have hAl:A.length=A'.length:=by rw[hA,hA'];simp[St.upd_A]
    rw[hAl]at hkey ⊢
    have hput:Jb st lv mx ob ox (ver+1) (out++[o])=((st.upd lv mx (.map (YH (out++[o])))).upd lv ox (.arr 1 (ver+1) (out.map QB++[.int .u64 o]))).upd lv ob (.arr 1 0 [.ref lv ox (ver+1) 0 (out.length+1)]):=by
     unfold Jb;rw[List.map_append,lL];rfl
    rw[hput]at hkey;clear hput q1
    generalize st.upd lv mx (.map (YH (out++[o])))=st1 at *
    have hg3:=fun L=>ZX hA' (ro:=false) (L:=L) ka
    repeat'(first|refine ZD ?_|refine ZU Y Y ?_|refine ZP Y Y Y Y ?_|refine ZB Y ?_|refine ZC ?_|refine Qc Y Y Y Y ?_|refine Z9 Y (hg3 _) Y Y ?_)
    refine Zqc hA' hw1 kb (by rw[List.length_map];rfl) rfl rfl rfl (by simp;omega) (by decide) (fun A2 hA2=>?_)
    have q2:∀l' i',(st1.upd lv ox (.arr 1 (ver+1) (out.map QB++[.int .u64 o]))).get l' i'=if l'=lv/\i'=ox then some (.arr 1 (ver+1) (out.map QB++[.int .u64 o])) else st1.get l' i':=fun l' i'=>St.get_upd kb rfl
    have kc:(st1.upd lv ox (.arr 1 (ver+1) (out.map QB++[.int .u64 o]))).get lv ob=some (.arr 1 0 [.ref lv ox ver 0 out.length]):=by rw[q2,if_neg (fun q=>hs.n3 q.2.symm)];exact ka
    have hw2:=St.wr_upd (b:=.arr 1 (ver+1) (out.map QB++[.int .u64 o])) (ix:=ox) hw1 hw1
    have hAl2:A'.length=A2.length:=by rw[hA',hA2];simp[St.upd_A]
    rw[hAl2]at hkey ⊢
    generalize st1.upd lv ox (.arr 1 (ver+1) (out.map QB++[.int .u64 o]))=st2 at *
    refine is_stP hA2 Y Y hw2 kc Y (Ja _ (Nat.lt_succ_self _)) Y (fun A3 hA3=>?_)
    have hAl3:A2.length=A3.length:=by rw[hA2,hA3];simp[St.upd_A]
    rw[hAl3]at hkey ⊢
    have hk:=hkey A3 (by rw[hA3];simp) (by simp) _ (.inl rfl)
    repeat'(first|exact hk|refine ZB Y ?_|refine ZC ?_)
theorem Zr0{t:Tr}(hp:t.Pos)(hsz:t.siz<4294967296)(st:St):S Tb ZHF [t.av] st=some (.lit ((t.kwT []).map QB),st):=by
 refine QK Y (fun A hA=>?_)
 have hW:∀L,L=[.arr 7 0 [t.av],.arr 1 0 [],.arr 1 0 [.ref A.length 1 0 0 0],.map [],.arr 1 0 [.map A.length 3],.arr 1 0 [.func (.func Yo) [] [.ptr A.length 4 0 0 0,.ptr A.length 2 0 0 0,.ptr A.length 5 0 0 0]]] ->
  Sp Tb Yo [t.av,.ptr A.length 4 0 0 0,.ptr A.length 2 0 0 0,.ptr A.length 5 0 0 0] ⟨A,false,L⟩ fun v st'=>v=.tup []/\∃ver',st'=Jb ⟨A,false,L⟩ A.length 3 2 1 ver' (t.kwT []):=by
  rintro L rfl
  refine Zqe t hp (ver:=0) (mb:=4) (mx:=3) (ob:=2) (ox:=1) (wb:=5) ⟨by simp[St.wr],by rw[St.get_cur];rfl,by rw[St.get_cur];rfl,by rw[St.get_cur];rfl,by rw[St.get_cur];rfl,by rw[St.get_cur];rfl,by decide,by decide,by decide,by decide,by decide⟩ (by simp;omega)
 repeat'(first|refine ZE ?_|refine ZD ?_|refine ZG Y ?_|refine ZP Y Y Y Y ?_|refine ZB Y ?_|refine ZC ?_|refine Xb Y Y ?_|refine Ze Y Y Y ?_|refine ZD1 Y ?_|refine ZBD Y ?_|refine ZP Y Y Y (Zk _) ?_|refine Zx Y (Z0 _) (QA _) ?_|refine Zr Y Y Y (Zls _ (Nat.lt_succ_self _)) Y Y ?_|refine Zr Y Y Y (ZOM _ (Nat.lt_succ_self _)) Y Y ?_)
 refine ZVs Y Y (wk4 _ _ _ _ Y Y Y) (hW _ Y) ?_
 rintro v st' ⟨rfl,v2,rfl⟩
 have hpc:∀b0 b1 b2 b3 b4 b5 w,Jb ⟨A,false,[b0,b1,b2,b3,b4,b5]⟩ A.length 3 2 1 v2 w=⟨A,false,[b0,.arr 1 v2 (w.map QB),.arr 1 0 [.ref A.length 1 v2 0 w.length],.map (YH w),b4,b5]⟩:=by
  intro b0 b1 b2 b3 b4 b5 w
  simp[Jb,St.upd]
 rw[hpc]
 generalize t.kwT []=w at *
 repeat'(first|refine ZE ?_|refine ZD ?_|refine ZG Y ?_|refine ZP Y Y Y Y ?_|refine ZB Y ?_|refine ZC ?_|refine ZQ ?_|refine ZO ?_)
 refine ZEn (es:=w.map QB) hA (by simp) Y Y (by simp) (by intro v hv;obtain⟨x,_,rfl⟩:=List.mem_map.1 hv;rfl) ?_
 rfl
def wrV(t:Tr)(r:AR):AR × Ro × List Nat:=if t.old=0/\t.h=0/\t.text=[] then (r,.zero,[]) else t.wr r
theorem ZVv{N:ZJ}(hv:Val N t)(r:AR):wrV t r=t.wr r:=by
 unfold wrV
 cases hv with
 | kept h0=>rw[if_neg];simp[Tr.old,h0]
 | leaf h1=>rw[if_neg];rintro⟨_,_,q⟩;simp only[Tr.text]at q;rw[q]at h1;simp at h1
 | inner=>rw[if_neg];simp[Tr.h]
theorem ZRk(h:IsEmpty t)(r:AR):wrV t r=(r,.zero,[]):=by
 unfold wrV;rw[if_pos ⟨h.old,h.h,h.text⟩]
theorem Val.not_empty{N:ZJ}(hv:Val N t):¬ IsEmpty t:=fun h=>by
 have:=hv.pos.2
 have:=h.bytes
 omega
theorem PI.run{r:AR}(ho:AROk r)(hg:GoodN r.nodes)(hv:VE r.nodes t)(hb:t.bytes<=65536)(hn:nw t<=r.n){its:List It}{ρ:Nat->Ro}(h:PI t its rx ρ):
 ∃ρ',RunOk its r ρ (wrV t r).1 ρ' (wrV t r).2.2/\ρ' rx=(wrV t r).2.1:=by
 rcases h with⟨h1,rfl,h2⟩|⟨⟨M,hM⟩,R,h1,h2,h3⟩
 ·rw[ZRk h1];exact⟨ρ,.nil,h2⟩
 ·rcases hv with hv|hv
  ·exact absurd hv hM.not_empty
  ·rw[ZVv hv]
   rw[ZFj hv]at hn;obtain⟨ρ',a1,a2,_⟩:=exec_ok hg hv hb r ho hg (.refl _) hn rx its R ρ h1 h2 h3;exact⟨ρ',a1,a2⟩
theorem Zka{L:List Blk}{b:Nat}{r:AR}(hA:HasR ⟨A,false,L⟩ la b r)(hN:r.n<=r.blk.length)(h16:r.states.length<=16384)(h6:r.n<65536)(hv:VE r.nodes t)(hb:t.bytes<=65536)(hn:nw t<=r.n):
 ∃L2 tx ver cs its F keys rx ρ,S Tb XQ [.ptr la (b+5) 0 0 0,t.av] ⟨A,false,L⟩=some (.tup [.ptr A.length (L.length+1) 0 0 0,.int .i64 0],⟨A,false,L2⟩)/\Begun A L L2 la b t tx ver cs its F keys rx ρ:=by
 rcases hv with hv|hv
 ·exact Zht hA hN h16 h6 hv
 ·rw[ZFj hv]at hn
  exact Zlq (N:=r.nodes) hA hN h16 h6 hv hb hn
theorem Zqf{L:List Blk}{ro:Ro}{e:Int}(hg:L[ix]?=some (.arr 1 ver (l.map QB)))(hn:n=l.length):
 ZZ QF A.length ⟨A,false,L⟩ (.tup [ro.av,.ref A.length ix ver 0 n,.int .i64 e])=some (.tup [ro.av,.lit (l.map QB),.int .i64 e],⟨A,false,L.set ix .dead⟩):=by
 subst hn
 have h1:=ZIw (n:=4) (A:=A) (s:=0) (m:=l.length) hg (by simp) (es':=l.map QB) (by
  rw[List.drop_zero,List.take_of_length_le (by simp)]
  exact ZRh (k:=.u64) (fun n:Nat=>(n:Int)) 3 0 _ l)
 show (mapSt (ZZ 5 A.length) _ _).bind Zdy=_
 have h2:ZZ 5 A.length ⟨A,false,L⟩ ro.av=some (ro.av,⟨A,false,L⟩):=rfl;simp only[mapSt,h2,oS,h1];rfl
theorem RunOk.len{its:List It}{r:AR}{ρ ρ':Nat->Ro}{hs:List Nat}(h:RunOk its r ρ r' ρ' hs):hs.length=its.length:=by
 induction h with
 | nil=>rfl
 | cons hn hx hk h ih=>simp[ih]
theorem RunOk.inv{its:List It}{r:AR}{ρ ρ':Nat->Ro}(h:RunOk (it::its) r ρ r' ρ' l):
 ∃hs,l=r.next::hs/\0<r.n/\NdOk (Q7 ρ it.c)/\ZRj r.nodes (Q7 ρ it.c)/\RunOk its (r.add (Q7 ρ it.c)) (ZOR ρ it.rx r.next) r' ρ' hs:=by
 cases h with
 | cons hn hx hk h=>exact⟨_,rfl,hn,hx,hk,h⟩
theorem RunOk.nil_inv{r:AR}{ρ ρ':Nat->Ro}(h:RunOk [] r ρ r' ρ' l):l=[]/\r'=r/\ρ'=ρ:=by
 cases h;exact⟨rfl,rfl,rfl⟩
theorem Znp{b:Nat}(hl:la<=st.A.length)(rj r2:AR)(hn:n=st.A.length+1)(L:List Blk)(ip tx ver len rx k:Nat)(ro:Ro)(j:Nat):
 ZFi ⟨(Qe st la b rj).ps,false,L⟩ n ip tx ver la b len rx r2 k ro j=⟨(Qe st la b r2).ps,false,(L.set k (.arr 5 0 [ro.av])).set ip (.arr 3 0 [.agg [.ptr la (b+5) 0 0 0,.ref n tx ver (j+1) (len-j-1),.ptr n rx 0 0 0]])⟩:=by
 have e1:Qe ⟨(Qe st la b rj).ps,false,L⟩ la b r2=⟨(Qe st la b r2).ps,false,L⟩:=by
  rw[ZAF rfl (by rw[ZFf];exact hl),Zli]
 have e2:((Qe st la b r2).ps).length=n:=by rw[hn];simp[ZFf]
 rw[ZFi,e1];unfold St.upd;simp only[e2,if_true]
theorem PenS.frm{L L':List Blk}{b:Nat}{its:List It}{F:List (Nat × Blk)}{keys:List Nat}{ρ:Nat->Ro}(h:PenS ⟨A,false,L⟩ n ip tx ver la b cls its F keys rx ρ j)(hn:n=A.length)
 (hg:∀i,i=ip\/(cls≠[]/\i=tx)\/i∈keys\/(∃p∈F,i=p.1)->L'[i]?=L[i]?):PenS ⟨A,false,L'⟩ n ip tx ver la b cls its F keys rx ρ j:=by
 subst hn;obtain⟨td,h1,h2⟩:=h.pen
 have hget:∀i,(i=ip\/(cls≠[]/\i=tx)\/i∈keys\/(∃p∈F,i=p.1))->St.get ⟨A,false,L'⟩ A.length i=St.get ⟨A,false,L⟩ A.length i:=fun i hi=>by rw[St.get_cur,St.get_cur,hg i hi]
 refine⟨by simp[St.wr],⟨td,by rw[hget _ (.inl rfl)];exact h1,?_⟩,h.cl,fun p hp=>by rw[hget _ (.inr (.inr (.inr ⟨p,hp,rfl⟩)))];exact h.fx p hp,fun k hk=>by rw[hget _ (.inr (.inr (.inl hk)))];exact h.rts k hk,h.key,h.rk,h.s1,h.s2,h.s3,h.ar,h.len,h.jl⟩
 rcases h2 with q|⟨hc,q1,q2⟩
 ·exact .inl q
 ·exact .inr ⟨hc,q1,by rw[hget _ (.inr (.inl ⟨hc,rfl⟩))];exact q2⟩
theorem Znq{L:List Blk}{x:Ex}{c4 c5 c6 j4 w4 v4:Nat}{ro:Ro}{z:Int}(hA:A=st.A++[(st.ro,st.L)])(hx:x=.norm\/x=.ret)(h4:Jy e c4=some (.ptr A.length j4 v4 0 0))(hg4:L[j4]?=some (.arr w4 v4 [ro.av]))
 (h5:Jy e c5=some (.ref A.length ix ver 0 n)) (hg5:L[ix]?=some (.arr 1 ver (l.map QB))) (hn:n=l.length) (h6:Jy e c6=some (.int .i64 z)):JA false [.c c4 true 5,.s c5,.s c6] (x,e,⟨A,false,L⟩)=some (.tup [ro.av,.lit (l.map QB),.int .i64 z],st):=by
 refine ZAr (v:=.tup [ro.av,.ref A.length ix ver 0 n,.int .i64 z]) hA hx ?_ (Zqf hg5 hn) Y
 have h1:ZBN ⟨A,false,L⟩ e (.c c4 true 5)=some ro.av:=by
  simp only[ZBN,QL h4,loadP,St.get_cur,hg4,vis,ZFq,if_true,List.getElem?_cons_zero,oS];rfl
 simp only[QT,ZDf,h1,oS];simp only[ZBN,QL h5,QL h6,oS,Option.map_some,ZFr]
theorem ZVw{b:Nat}{r:AR}(hA:Has st la b r)(ho:AROk r)(hg:GoodN r.nodes)(hv:VE r.nodes t)(hb:t.bytes<=65536)(hn:nw t<=r.n):
 S Tb Ye [.ptr la (b+5) 0 0 0,t.av] st=some (.tup [(wrV t r).2.1.av,.lit ((wrV t r).2.2.map QB),.int .i64 0],Qe st la b (wrV t r).1):=by
 refine ZAc Y (fun A hA'=>?_)
 obtain⟨LB,hLB⟩:∃LB:List Blk,LB=[.arr 7 0 [t.av],.arr 5 0 [Ro.zero.av],.arr 1 0 []]:=⟨_,rfl⟩;have hle:=hA.le
 have hla:la<A.length:=by rw[hA'];simp;omega
 have h3:LB.length=3:=by rw[hLB];rfl
 obtain⟨L2,tx,ver,cs,its,F,keys,rx,ρ,hS,hB⟩:=Zka (L:=LB) (hA.push hA').r ho.nb ho.n16 (by have:=ho.nn;have:=ho.n16;omega) hv hb hn
 obtain⟨ρ',hrun,hro⟩:=hB.pi.run ho hg hv hb hn
 generalize (wrV t r).1=r' at *
 generalize (wrV t r).2.2=hs at *
 generalize (wrV t r).2.1=ro at *
 have hcl:=hB.ps.cl.len
 have hk5:∀k∈keys,5<=k:=fun k hk=>by have:=hB.klo k hk;omega
 have g1:L2[1]?=some (.arr 5 0 [Ro.zero.av]):=by rw[hB.old 1 (by omega),hLB];rfl
 have g2:L2[2]?=some (.arr 1 0 (([]:List Nat).map QB)):=by rw[hB.old 2 (by omega),hLB];rfl
 have hps:=hB.ps;rw[h3]at hS hps;rw[hLB]at hS
 repeat'(first|refine ZE ?_|refine ZD ?_|refine ZG Y ?_|refine Zs Y Y ?_|refine ZB Y ?_|refine ZC ?_|(refine cm0 Y Y Y ?_ ?_<;>intro _<;>try omega)|refine ZH Y ?_|refine Ze Y Y Y ?_|refine ZBz Y ?_|refine ZP Y Y Y (Zk _) ?_|refine Zx Y (Z0 _) (QA _) ?_|refine ZA Y Y (by first|rfl|(simp only[lE,lN,lC,ZY,ZS,ZV];first|done|rfl)) (hS) ?_|refine ZI ?_|refine ZL ?_)
 all_goals try contradiction
 have hAn:A.length=st.A.length+1:=by rw[hA'];simp
 have hhl:=hrun.len
 refine Z2 (α:=Bool × Nat × AR × (Nat->Ro) × List Blk) (fun p=>match p.1 with
  | true=>[(4,.ptr A.length 1 0 0 0),(5,.ref A.length 2 p.2.1 0 p.2.1),(6,.int .i64 0),(7,.ptr A.length 4 0 0 0),(18,.bool false)]
  | false=>[(4,.ptr A.length 1 0 0 0),(5,.ref A.length 2 p.2.1 0 p.2.1),(7,.ptr A.length 4 0 0 0)])
  (fun p=>⟨(Qe st la b p.2.2.1).ps,false,p.2.2.2.2⟩)
  (fun p=>PenS ⟨(Qe st la b p.2.2.1).ps,false,p.2.2.2.2⟩ A.length 4 tx ver la b cs its F keys rx p.2.2.2.1 p.2.1/\AROk p.2.2.1/\RunOk (its.drop p.2.1) p.2.2.1 p.2.2.2.1 r' ρ' (hs.drop p.2.1)/\p.2.1<=its.length/\p.2.2.2.2[1]?=some (.arr 5 0 [Ro.zero.av])/\p.2.2.2.2[2]?=some (.arr 1 p.2.1 ((hs.take p.2.1).map QB)))
  (fun p=>its.length-p.2.1) (true,0,r,ρ,L2) rfl ?_ ?_ ?_
 ·simp only[hA.same,<- hA']
 ·simp only[hA.same,<- hA']
  exact⟨hps,ho,hrun,Nat.zero_le _,g1,g2⟩
 rintro⟨fst,j,rj,ρj,Lj⟩ ⟨q1,q2,q3,q4,q5,q6⟩
 simp only at q1 q2 q3 q4 q5 q6
 have hHj:Has ⟨(Qe st la b rj).ps,false,Lj⟩ la b rj:=(hA.put rj).push rfl;obtain⟨td,t1,t2⟩:=q1.pen
 have hAl:A.length=(Qe st la b rj).ps.length:=by rw[hAn];simp[ZFf]
 rcases Nat.lt_or_ge j its.length with hlt|hge
 ·obtain⟨it,hit⟩:∃it,its[j]?=some it:=⟨its[j]'hlt,by simp[hlt]⟩
  have hd:its.drop j=it::its.drop (j+1):=by
   rw[List.drop_eq_getElem_cons hlt];rw[jE hlt]at hit;rw[Option.some.inj hit]
  rw[hd]at q3;obtain⟨hs2,e1,hn1,hx1,hk1,hr1⟩:=q3.inv
  have hdj:hs[j]?=some rj.next:=by
   have:=List.getElem?_drop (xs:=hs) (i:=j) (j:=0)
   rw[e1]at this
   simpa using this.symm
  have hd2:hs.drop (j+1)=hs2:=by
   rw[<- List.drop_drop,e1];rfl
  obtain⟨p1,p2,p3⟩:=q1.step hHj q2 hn1 hit hx1 hk1;rw[Znp hle rj _ hAn]at p1 p2
  have hjc:j<cs.length:=by rw[hcl];exact hlt
  have hne:cs≠[]:=fun q=>by rw[q]at hjc;simp at hjc
  rcases t2 with⟨w,_⟩|⟨_,rfl,t3⟩
  ·exact absurd w hne
  obtain⟨k1,_⟩:=q1.key it (jM hit);have hk5':=hk5 _ k1
  have hl4:Lj[4]?=some (.arr 3 0 [.agg [.ptr la (b+5) 0 0 0,.ref A.length tx ver j (cs.length-j),.ptr A.length rx 0 0 0]]):=by
   rw[hAl]at t1;rw[St.get_cur]at t1;rw[hAl];exact (ZA6 t1).1
  obtain⟨r2,hr2⟩:∃r2,r2=rj.add (Q7 ρj it.c):=⟨_,rfl⟩;rw[<- hr2]at p1 p2 hr1
  have ho2:AROk r2:=by rw[hr2];exact q2.add hn1 _
  have hAl2:A.length=(Qe st la b r2).ps.length:=by rw[hAn];simp[ZFf]
  obtain⟨L3,hL3⟩:∃L3,L3=(Lj.set it.rx (.arr 5 0 [((ρj it.rx).wr rj.next).av])).set 4 (.arr 3 0 [.agg [.ptr la (b+5) 0 0 0,.ref A.length tx ver (j+1) (cs.length-j-1),.ptr A.length rx 0 0 0]]):=⟨_,rfl⟩;rw[<- hL3]at p1 p2
  have h31:L3[1]?=some (.arr 5 0 [Ro.zero.av]):=by rw[hL3,jS (by omega),jS (by omega)];exact q5
  have h32:L3[2]?=some (.arr 1 j ((hs.take j).map QB)):=by rw[hL3,jS (by omega),jS (by omega)];exact q6
  have hj2:j=((hs.take j).map QB).length:=by simp;omega
  have hj3:∀x:AV,((hs.take j).map QB).length+[x].length<4294967296:=fun x=>by have:=q1.len;simp;omega
  have hinv:∀L4,L4=L3.set 2 (.arr 1 (j+1) ((hs.take j).map QB++[.int .u64 rj.next]))->PenS ⟨(Qe st la b r2).ps,false,L4⟩ A.length 4 tx ver la b cs its F keys rx (ZOR ρj it.rx rj.next) (j+1)/\AROk r2/\RunOk (its.drop (j+1)) r2 (ZOR ρj it.rx rj.next) r' ρ' (hs.drop (j+1))/\j+1<=its.length/\L4[1]?=some (.arr 5 0 [Ro.zero.av])/\L4[2]?=some (.arr 1 (j+1) ((hs.take (j+1)).map QB)):=by
   rintro L4 rfl
   refine⟨?_,ho2,by rw[hd2];exact hr1,hlt,by rw[jS (by omega)];exact h31,?_⟩
   ·refine p2.frm hAl2 (fun i hi=>jS ?_)
    rcases hi with rfl|⟨hc,rfl⟩|q|⟨p,hp,rfl⟩
    ·omega
    ·have:=hB.tlo hc;omega
    ·have:=hk5 i q;omega
    ·have:=hB.flo p hp;omega
   ·rw[List.getElem?_set_self (List.getElem?_eq_some_iff.1 h32).1,Zb hdj,List.map_append];rfl
  obtain⟨A2,hA2⟩:∃A2,A2=(Qe st la b r2).ps:=⟨_,rfl⟩;obtain⟨A1,hA1⟩:∃A1,A1=(Qe st la b rj).ps:=⟨_,rfl⟩;rw[<- hA1]at p1 hAl ⊢;rw[<- hA2]at p1 hAl2;have hA12:A1.length=A2.length:=hAl.symm.trans hAl2;rw[hAl]at hl4 p1 hinv ⊢
  cases fst
  all_goals simp only
  all_goals repeat'(first|refine ZA Y Y Y p1 ?_|refine ZE ?_|refine ZD ?_|refine ZG Y ?_|refine ZU Y Y ?_|refine Zs Y Y ?_|refine ZB Y ?_|refine ZC ?_|refine Z5 Y Y ?_|refine JZ Y ?_|(refine cm0 Y Y Y ?_ ?_<;>intro _<;>try omega)|refine ZW Y ?_|refine ZH Y ?_|refine Qc Y Y Y Y ?_|refine ZP Y hl4 Y Y ?_|refine ZI ?_|refine ZL ?_)
  all_goals try first|contradiction|omega
  all_goals rw[hA12]
  all_goals repeat'(first|refine ZCI Y Y h32 hj2 Y Y (hj3 _) (by decide) ?_|refine ZG Y ?_|refine ZB Y ?_|refine Zz ?_|refine QD ?_)
  all_goals rw[hA12,hA2]at hinv
  all_goals rw[hA2]
  all_goals exact⟨(false,j+1,r2,ZOR ρj it.rx rj.next,_),⟨rfl,rfl⟩,hinv _ Y,by simp only;omega⟩
 ·obtain rfl:j=its.length:=by omega
  rw[List.drop_length,<- hhl,List.drop_length]at q3;obtain⟨_,rfl,rfl⟩:=q3.nil_inv;rw[<- hhl,List.take_length]at q6;have hRt:=Zry q1 hcl.symm;rw[hro]at hRt;obtain⟨A1,hA1⟩:∃A1,A1=(Qe st la b r').ps:=⟨_,rfl⟩;rw[<- hA1]at hRt hAl ⊢
  have hl4:∃w,Lj[4]?=some (.arr 3 0 [.agg [.ptr la (b+5) 0 0 0,td,w]])/\(td=.nils\/∃v,td=.ref A.length tx v its.length 0):=by
   rw[hAl,hA1,St.get_cur]at t1;refine⟨_,(ZA6 t1).1,?_⟩
   rcases t2 with⟨_,w⟩|⟨_,w,_⟩
   ·exact .inl w
   ·refine .inr ⟨ver,?_⟩
    rw[w,hcl,Nat.sub_self]
  obtain⟨w4,hl4,htd⟩:=hl4
  rw[<- hhl]at *
  have hl1:=(List.getElem?_eq_some_iff.1 q5).1;rw[hAl]at hRt htd ⊢
  rcases htd with rfl|⟨v,rfl⟩
  all_goals cases fst
  all_goals simp only
  all_goals repeat'(first|refine ZA Y Y Y hRt ?_|refine ZE ?_|refine ZD ?_|refine ZG Y ?_|refine ZU Y Y ?_|refine Zs Y Y ?_|refine ZB Y ?_|refine ZC ?_|refine Z5 Y Y ?_|refine JZ Y ?_|refine Jx Y ?_|(refine cm0 Y Y Y ?_ ?_<;>intro _<;>try omega)|refine ZH Y ?_|refine ZP Y hl4 Y Y ?_|refine Zv ?_|refine Zf ?_|refine Zc Y ?_|refine Zu ?_)
  all_goals try omega
  all_goals refine Q0 q5 Y Y Y Y Y ?_
  all_goals repeat'(first|refine ZE ?_|refine ZD ?_|refine ZG Y ?_|refine ZB Y ?_|refine ZC ?_|refine ZP Y (List.getElem?_set_self hl1) Y Y ?_)
  all_goals refine Q0 (List.getElem?_set_self hl1) Y Y Y Y Y ?_
  all_goals rw[List.set_set]
  all_goals repeat'(first|refine ZG Y ?_|refine ZB Y ?_|refine ZC ?_|refine ZQ ?_|refine ZO ?_)
  all_goals exact Znq (ro:=ro) hA1 (.inr Y) Y (List.getElem?_set_self hl1) Y ((jS (by omega)).trans q6) (by simp) Y
end Go.Q15
namespace Go.QAbs
variable {cv:AV}{a:Act}{ro:Bool}{e:Env}{f:FuncId}{A:List (Bool × List Blk)}{args caps cls:LV}{l:List Nat}{clock d i ip ix j la mx n ob ox rx tx ver wb:Nat}{o:Oper}{s st:St}
abbrev Cut1:=FuncId->Option (LV->St->OS)
def Zr1(T:Tab)(sh:Cut1):Prop:=∀f o args st r,sh f=some o->o args st=some r->S T f args st=some r
def TLe(T T':Tab):Prop:=∀f x,T f=some x->T' f=some x
theorem Zdc{T T':Tab}(h:TLe T T'):∀n,Le (Qh T n) (Qh T' n)
 | 0=>fun _ _ _ _ q=>by simp[Qh]at q
 | n+1=>fun f _ _ _ q=>Qa (fun x q=>h f x q) (fun x _ q=>by
  cases x with
  | pf pf=>exact ZJl (Zdc h n) (ZeD (Nat.le_refl n)) q
  | base o=>exact q) q
theorem Zdd{T T':Tab}(h:TLe T T'):Le (S T) (S T'):=fun f a st r q=>by
 obtain⟨n,hn⟩:=S_iff.1 q;exact S_iff.2 ⟨n,Zdc h n _ _ _ _ hn⟩
theorem Znr:∀(A:List (Bool × List Blk)) (r:Bool × List Blk),pop (A++[r])=some (A,r)
 | [],r=>rfl
 | [a],r=>rfl
 | a::b::A,r=>by
  have:=Znr (b::A) r
  rw[lC,lC,pop];rw[lC]at this;rw[this];rfl
theorem Zhv(v:AV)(st:St)(ro:Bool)(L:List Blk):JV (v,⟨st.ps,ro,L⟩)=some (v,st):=by
 simp only[JV,Znr,oS,ZI9]
section
variable {k:List Fr}{Q:J0}{e:Env}{st:St}{keep:List Nat}{is:List PI}{d:Nat}{T:Tab}
theorem Zns{st':St}{f:Opd}{args:List Opd}{lv:Nat}{cs vs ws:LV}{v:AV}(hf:Zd e f=some (.func (.yield lv) [] cs))(ha:ZD0 e args=some vs)(hw:ZY (vs++cs)=ws)(hc:S T (yB+lv) ws st=some (v,st'))
 (h:Is (S T) is keep k Q ((d,v)::e) st'):Is (S T) (⟨some d,none,false,.call .norm f args⟩::is) keep k Q e st:=by
 refine Z3 (od:=some d) (v:=v) (st':=st') ?_ h;simp only[Zg,ZF hf,YZ ha,ZAK,Qg,hw,hc]
theorem Zhw{nt:Nat}{rg:Rng}{st':St}(hl:args.length=rg.ps.length+nt)
 (h:∀A,A=st.ps->Ru (S T) rg.assign [] (fun x e s=>x=.norm/\Ru (S T) rg.body [] (fun x e s=>x=.norm/\s.A=st'.ps) e s) (ZLz rg.ps args (QZ 0 (args.drop rg.ps.length))) ⟨A,false,[]⟩):ZAq (S T) itS nt rg args st=some (.bool true,st'):=by
 obtain⟨x,e1,s1,h1,h2⟩:=(h _ rfl).h;obtain⟨rfl,⟨x,e2,s2,h3,h4⟩⟩:=h2;obtain⟨rfl,h5⟩:=h4;unfold ZAq;rw[if_pos hl]
 have:st.push=⟨st.ps,false,[]⟩:=rfl
 rw[this,h1,oS];simp only[ZOw,h3,oS,Zgw];obtain⟨A,ro,L⟩:=s2
 simp only at h5
 subst h5;exact Zhv _ _ _ _
theorem Znt{OT:Nat->Orc}{nt:Nat}{rg:Rng}{g:FuncId}{first cap:LV}{v:AV}{L:List Blk}{st2:St}(hg:Zd e rg.g=some (.func (.func g) first cap))(hy:g<yB)
 (hc:OT (st.A.length+1) g (ZY (first++[.func (.yield (st.A.length+1)) [] (ZJo nt e)]++cap)) ⟨st.ps,false,[]⟩=some (v,⟨st2.ps,ro,L⟩)):ZSV OT nt rg e st=some (.norm,e,st2):=by
 unfold ZSV;rw[ZF hg];simp only[if_pos hy]
 have:st.push=⟨st.ps,false,[]⟩:=rfl
 rw[this,hc,oS,ZlM,Zhv,oS]
theorem s_rf{T0:Tab}{rf:RF}{r:AV × St}(hT:T f=some (.base (rfO T0 rf)))
 (h:∀A,A=st.ps->Ru (S T0) rf.pre [] (fun x e s=>(x=.ret/\JA false rf.res (.ret,e,s)=some r)\/(x=.norm/\∃s2,ZSV (fun lv=>S (ZSW T0 lv (ZAq (S T0) itS rf.nt rf.rng))) rf.nt rf.rng e s=some (.norm,e,s2)/\Ru (S T0) rf.post [] (fun x e s=>JA false rf.res (x,e,s)=some r) e s2)) (QZ 0 args) ⟨A,false,[]⟩):S T f args st=some r:=by
 refine ZWM (o:=rfO T0 rf) hT ?_;obtain⟨x,e1,s1,h1,h2⟩:=(h _ rfl).h;unfold rfO rfG ZJp
 have:st.push=⟨st.ps,false,[]⟩:=rfl
 rw[this,h1,oS]
 rcases h2 with⟨rfl,h3⟩|⟨rfl,s2,h3,⟨x,e3,s3,h5,h6⟩⟩
 ·simp only[JL,oS];exact h3
 ·simp only[JL,h3,oS,h5];exact h6
end
theorem Zkb{T:Tab}(hT:∀f x,T f=some x->f<yB)(lv:Nat)(o:LV->St->OS):TLe T (ZSW T lv o):=fun f x hx=>by
 unfold ZSW;rw[if_neg]
 ·exact hx
 ·intro q;exact ZeN (hT f x hx) q
theorem Zkc(T:Tab)(lv:Nat)(o:LV->St->OS)(args:LV)(st:St){r:AV × St}(h:o args st=some r):S (ZSW T lv o) (yB+lv) args st=some r :=
 ZWM (o:=o) (by unfold ZSW;rw[if_pos rfl]) h
end Go.QAbs
namespace Go.Q15
open Go Go.QAbs
variable {r':AR}{cv:AV}{a:Act}{ro:Bool}{e:Env}{f:FuncId}{it:It}{c:ItC}{A:List (Bool × List Blk)}{args caps cls:LV}{l:List Nat}{clock d i ip ix j la mx n ob ox rx tx ver wb:Nat}{x:Nd}{o:Oper}{s st:St}{t:Tr}
def Yr(N:ZJ)(o:Nat):Nd:=(lk N o).getD ⟨0,[],none⟩
theorem Qw{N:ZJ}{o:Nat}(h:lk N o=some x):Yr N o=x:=by unfold Yr;rw[h];rfl
def Ql(N:ZJ):Nat->Nat->List Nat
 | 0,o=>[o]
 | n+1,o=>o::(Yr N o).ks.flatMap fun k=>Ql N n k.at_
def Zlu(x:Nd):AV:=.agg [.int .i64 x.h,.str x.text,.lit (x.ks.map Kid.av),.int .i64 0]
theorem ZId{l:Nat}{b:Blk}(h:s.get l i=some b)(more:List (Bool × List Blk))(ro:Bool)(L:List Blk):St.get ⟨s.ps++more,ro,L⟩ l i=some b:=by
 have hl:=St.get_le h;have h1:=ZX (A:=s.ps) rfl (ro:=ro) (L:=L) h;unfold St.get at h1 ⊢
 have e1:l≠s.ps.length:=by simp;omega
 have e2:l≠(s.ps++more).length:=by simp;omega
 simp only[if_neg e1,if_neg e2]at h1 ⊢
 rw[jL (by simp;omega)]
 exact h1
theorem Rd.more{lv:Nat}{N:ZJ}(h:Rd s lv ix N)(more:List (Bool × List Blk))(ro:Bool)(L:List Blk):Rd ⟨s.ps++more,ro,L⟩ lv ix N:=by
 obtain⟨a0,a1,im,a3,a4,a5,h1,h2⟩:=h;exact⟨a0,a1,im,a3,a4,a5,ZId h1 _ _ _,ZId h2 _ _ _⟩
theorem ZOT{N:ZJ}{h:Nat}(hx:lk N h=some x)(hok:NdOk x)(hh:x.h=n):Ql N n h=h::x.ks.flatMap fun k=>Ql N (n-1) k.at_:=by
 cases n with
 | zero =>
  have:x.ks=[]:=by
   rcases hok with q|⟨m,ks,q⟩
   ·exact q.ks
   ·have:=congrArg Nd.h q.eq;simp only at this;omega
  rw[this];rfl
 | succ n=>rw[Ql,Qw hx];rfl
theorem Znu{N:ZJ}(hN:GoodN N):∀(n h:Nat) (x:Nd),lk N h=some x->x.h=n->3*(Ql N n h).length+1<=4 ^ (n+1):=by
 intro n
 induction n with
 | zero=>intro h x hx hh;simp[Ql]
 | succ n ih =>
  intro h x hx hh;obtain⟨hok,hk⟩:=hN h x hx;rw[Ql,Qw hx,List.length_cons]
  have h6:4 ^ (n+1+1)=4*4 ^ (n+1):=by rw[Nat.pow_succ,Nat.mul_comm]
  rw[h6];clear h6
  have hP1:1<=4 ^ (n+1):=Nat.pow_pos (by decide)
  generalize 4 ^ (n+1)=P at *
  have key:∀l:List Kid,(∀k∈l,k∈x.ks)->3*(l.flatMap fun k=>Ql N n k.at_).length+l.length<=l.length*P:=by
   intro l
   induction l with
   | nil=>intro _;simp
   | cons k l ih2 =>
    intro hm
    obtain⟨_,y,y1,y2,_⟩:=hk k (hm k (by simp))
    have h1:=ih k.at_ y y1 (by omega)
    have h2:=ih2 fun q hq=>hm q (by simp[hq])
    rw[List.flatMap_cons,lL,List.length_cons,Nat.add_mul,Nat.one_mul];omega
  have h1:=key x.ks fun _ h=>h
  have h4:=hok.len;have h5:x.ks.length*P<=4*P:=Nat.mul_le_mul_right _ h4
  rcases hok with q|⟨m,ks,q⟩
  ·have:=q.h;omega
  ·have e:=q.eq
   have h7:=q.lo;subst e;simp only[Nd.ks,Option.getD_some]at h1 h4 h5 ⊢;have h8:(4-ks.length)*1<=(4-ks.length)*P:=Nat.mul_le_mul_left _ hP1
   have h9:ks.length*P+(4-ks.length)*P=4*P:=by rw[<- Nat.add_mul];congr 1;omega
   omega
structure NW(σ:List Nat->St)(lv:Nat)(caps:LV)(la b:Nat)(more:List (Bool × List Blk))(ro:Bool)(L:List Blk)(l1 i1 l2 i2 l3 i3:Nat):Prop where
 a:∀v,St.get ⟨(σ v).ps++more,ro,L⟩ l1 i1=some (.arr 1 0 [.ptr la (b+5) 0 0 0])
 y:∀v,St.get ⟨(σ v).ps++more,ro,L⟩ l2 i2=some (.arr 1 0 [.func (.yield lv) [] caps])
 w:∀v,St.get ⟨(σ v).ps++more,ro,L⟩ l3 i3=some (.arr 1 0 [.func (.func YS) [] [.ptr l1 i1 0 0 0,.ptr l2 i2 0 0 0,.ptr l3 i3 0 0 0]])
theorem NW.push{σ:List Nat->St}{lv:Nat}{b:Nat}{more:List (Bool × List Blk)}{L:List Blk}{l1 i1 l2 i2 l3 i3:Nat}(h:NW σ lv caps la b more ro L l1 i1 l2 i2 l3 i3)(L':List Blk):NW σ lv caps la b (more++[(ro,L)]) false L' l1 i1 l2 i2 l3 i3 :=
 ⟨fun v=>ZX (st:=⟨(σ v).ps++more,ro,L⟩) (by rw[<- List.append_assoc]) (h.a v),fun v=>ZX (st:=⟨(σ v).ps++more,ro,L⟩) (by rw[<- List.append_assoc]) (h.y v),fun v=>ZX (st:=⟨(σ v).ps++more,ro,L⟩) (by rw[<- List.append_assoc]) (h.w v)⟩
theorem Zr2{TY:Tab}(hT:TLe Tb TY){σ:List Nat->St}{N:ZJ}(hN:GoodN N){b lv:Nat}(hcw:ZY caps=caps)(hRd:∀v,Rd (σ v) la (b+5) N)(hlen:∀v,(σ v).A.length=(σ []).A.length)
 {B:Nat} (hy:∀v h x more ro L,v.length<B->lk N h=some x->S TY (yB+lv) (.int .u64 (h:Nat)::Zlu x::caps) ⟨(σ v).ps++more,ro,L⟩=some (.bool true,⟨(σ (v++[h])).ps++more,ro,L⟩)) :
 ∀n h x,lk N h=some x->x.h=n->∀v more ro L l1 i1 l2 i2 l3 i3,v.length+(Ql N n h).length<=B->NW σ lv caps la b more ro L l1 i1 l2 i2 l3 i3 ->
  S TY YS [.int .u64 (h:Nat),.ptr l1 i1 0 0 0,.ptr l2 i2 0 0 0,.ptr l3 i3 0 0 0] ⟨(σ v).ps++more,ro,L⟩=some (.bool true,⟨(σ (v++Ql N n h)).ps++more,ro,L⟩):=by
 intro n
 induction n using Nat.strongRecOn with
 | ind n ih =>
  intro h x hx hh v more ro L l1 i1 l2 i2 l3 i3 hB hw;have hok:=(hN h x hx).1;rw[ZOT hx hok hh,List.length_cons]at hB;have hkids:=(hN h x hx).2;have hk4:=hok.len
  refine ZAc (hT _ _ Y) (fun A hA=>?_)
  have hA2:A=(σ v).ps++(more++[(ro,L)]):=by rw[hA,List.append_assoc]
  clear hA;subst hA2
  have hw2:=fun L'=>hw.push L'
  have hG:∀v' L',S TY Qo [.ptr la (b+5) 0 0 0,.int .u64 h] ⟨(σ v').ps++(more++[(ro,L)]),false,L'⟩=some (.tup [.agg [.int .i64 x.h,.str x.text,.lit (x.ks.map Kid.av)],.int .i64 0],⟨(σ v').ps++(more++[(ro,L)]),false,L'⟩):=fun v' L'=>Zdd hT _ _ _ _ (ZhZ ((hRd v').more _ _ _) hx hk4)
  have hY:=fun L'=>hy v h x (more++[(ro,L)]) false L' (by omega) hx
  unfold Zlu at hY
  have hwk:ZY ([AV.int .u64 h,.agg [.int .i64 x.h,.str x.text,.lit (x.ks.map Kid.av),.int .i64 0]]++caps)=.int .u64 h::.agg [.int .i64 x.h,.str x.text,.lit (x.ks.map Kid.av),.int .i64 0]::caps:=by
   simp only[lC,lE,ZY,weak,hcw]
  repeat'(first|refine Zns Y Y hwk (hY _) ?_|refine ZE ?_|refine ZD ?_|refine ZG Y ?_|refine ZU Y Y ?_|refine ZP Y Y Y Y ?_|refine QE Y ?_|refine Zo Y Y Y Y ?_|refine Zs Y Y ?_|refine ZB Y ?_|refine ZC ?_|(refine cm0 Y Y Y ?_ ?_<;>intro _<;>try omega)|refine ZH Y ?_|refine JC Y Y ?_|refine Zq Y Y Y ?_|refine Ze Y Y Y ?_|refine Zr Y Y Y Y Y Y ?_|refine Z9 Y ((hw2 _).a v) Y Y ?_|refine Z9 Y ((hw2 _).y v) Y Y ?_|refine ZA Y Y Y (hG _ _) ?_|refine ZI ?_)
  all_goals try contradiction
  have hl2:∀v v',((σ v).ps++(more++[(ro,L)])).length=((σ v').ps++(more++[(ro,L)])).length:=fun v v'=>by
   simp only[lL];rw[hlen v,hlen v'];rfl
  rw[hl2 v (v++[h])];rw[ZOT hx hok hh]
  repeat'(first|refine ZG Y ?_|refine ZP Y Y Y Y ?_|refine ZB Y ?_|refine ZC ?_|refine QJ Y ?_|refine ZL ?_)
  refine Z2 (α:=Nat × List Blk) (fun p=>[(3,.ptr l3 i3 0 0 0),(28,.lit (x.ks.map Kid.av)),(29,.int .i64 x.ks.length),(30,.int .i64 p.1)])
   (fun p=>⟨(σ (v++h::(x.ks.take p.1).flatMap fun k=>Ql N (n-1) k.at_)).ps++(more++[(ro,L)]),false,.arr 3 0 [.agg [.int .i64 x.h,.str x.text,.lit (x.ks.map Kid.av)]]::p.2⟩) (fun p=>p.1<=x.ks.length) (fun p=>x.ks.length-p.1) (0,[]) rfl rfl (Nat.zero_le _) ?_
  rintro⟨i,G⟩ hi
  simp only at hi ⊢
  rcases Nat.lt_or_ge i x.ks.length with hlt|hge
  ·obtain⟨kd,hk'⟩:∃k,x.ks[i]?=some k:=⟨x.ks[i]'(by omega),by simp[hlt]⟩
   obtain⟨_,y,y1,y2,y3⟩:=hkids kd (jM hk')
   have hk1:0<=((i:Nat):Int)/\x.ks[((i:Nat):Int).toNat]?=some kd:=⟨by omega,by rw[show ((i:Nat):Int).toNat=i by omega];exact hk'⟩
   have ihk:=fun v' L' hb=>ih y.h (by omega) kd.at_ y y1 rfl v' _ _ L' l1 i1 l2 i2 l3 i3 hb (hw2 L')
   have hfin:(v++h::(x.ks.take i).flatMap fun k=>Ql N (n-1) k.at_)++Ql N y.h kd.at_=v++h::(x.ks.take (i+1)).flatMap fun k=>Ql N (n-1) k.at_:=by
    rw[Zb hk',List.flatMap_append,List.append_assoc,show n-1=y.h by omega]
    simp
   obtain⟨v1,hv1⟩:∃v1,v1=v++h::(x.ks.take i).flatMap fun k=>Ql N (n-1) k.at_:=⟨_,rfl⟩
   rw[<- hv1]at hfin ⊢
   have hb1:v1.length+(Ql N y.h kd.at_).length<=B:=by
    rw[<- lL,hfin,lL,List.length_cons]
    have h1:(x.ks.flatMap fun k=>Ql N (n-1) k.at_)=(x.ks.take (i+1)).flatMap (fun k=>Ql N (n-1) k.at_)++(x.ks.drop (i+1)).flatMap (fun k=>Ql N (n-1) k.at_):=by
     rw[<- List.flatMap_append,List.take_append_drop]
    have h2:=congrArg List.length h1;rw[lL]at h2;omega
   repeat'(first|refine JD Y Y hk1 (fun _=>rfl) ?_|refine ZA Y Y Y (ihk v1 _ hb1) ?_|refine ZE ?_|refine ZD ?_|refine ZG Y ?_|refine ZU Y Y ?_|refine ZB Y ?_|refine ZC ?_|refine Qr Y Y Y ?_|refine QH Y Y ?_|(refine cm0 Y Y Y ?_ ?_<;>intro _<;>try omega)|refine ZW Y ?_|refine ZH Y ?_|refine JC Y Y ?_|refine Zm Y Y (by omega) ?_|refine Zx Y Y Y ?_|refine YA Y Y Y Y Y Y ?_|refine Z9 Y ((hw2 _).w v1) Y Y ?_|refine ZI ?_|refine ZL ?_|refine Zz ?_|refine QD ?_)
   refine⟨(i+1,G++[Blk.arr 4 0 [kd.av]]),⟨rfl,?_⟩,by simp only;omega,by simp only;omega⟩
   rw[hfin];rfl
  ·obtain rfl:i=x.ks.length:=by omega
   rw[List.take_length]
   repeat'(first|refine ZE ?_|refine ZD ?_|refine ZG Y ?_|refine ZB Y ?_|refine ZC ?_|(refine cm0 Y Y Y ?_ ?_<;>intro _<;>try omega)|refine ZH Y ?_|refine ZQ ?_|refine Zv ?_|refine ZO ?_|refine Zf ?_|refine Zc Y ?_|refine Zu ?_)
   all_goals try omega
   refine Zi (st:=⟨(σ _).ps++more,ro,L⟩) (by rw[<- List.append_assoc]) (.inr rfl) rfl rfl rfl rfl ?_
   rfl
theorem ZIe:∀ {l:List (FuncId × Ent)},(l.all fun p=>decide (p.1<yB))=true->∀f x,ZAC l f=some x->f<yB
 | [],_,f,x,h=>by simp[ZAC]at h
 | p::l,ha,f,x,h=>by
  simp only[List.all_cons,Bool.and_eq_true,decide_eq_true_eq]at ha;simp only[ZAC]at h
  split at h
  ·rename_i e;rw[<- e];exact ha.1
  ·exact ZIe ha.2 f x h
theorem Znv:∀f x,Tb f=some x->f<yB:=ZIe (l:=tl) (by decide +kernel)
def RtOk(N:ZJ)(r:Ro):Prop:=r=.zero\/(r.at_≠0/\∃x,lk N r.at_=some x/\NdOk x/\x.h=r.h/\x.mea=r.m)
def Zh(N:ZJ)(r:Ro):List Nat:=if r.at_=0 then [] else Ql N r.h r.at_
theorem RtOk.h13{N:ZJ}(hN:GoodN N){r:Ro}(hr:RtOk N r):r.h<=13:=by
 rcases hr with rfl|⟨h0,x,h1,h2,h3,h4⟩
 ·decide
 ·have hv:Val N (.keep r):=.kept h0 h1 h2 h3 h4 rfl
  have hb:(Tr.keep r).bytes=r.m.b:=by simp[Tr.keep,Tr.bytes,Tr.bytesO]
  have:=h2.mea_pos
  exact hv.height hN (by rw[hb,<- h4];omega)
theorem YD{N:ZJ}(hN:GoodN N){r:Ro}(hr:RtOk N r):(Zh N r).length<100000000:=by
 have h13:=hr.h13 hN;unfold Zh
 split
 ·simp
 ·rename_i q
  rcases hr with rfl|⟨h0,x,h1,h2,h3,h4⟩
  ·exact absurd Y q
  ·have:=Znu hN r.h r.at_ x h1 h3
   have h5:4 ^ (r.h+1)<=4 ^ 14:=Nat.pow_le_pow_right (by decide) (by omega)
   have h6:(4:Nat) ^ 14=268435456:=by decide
   omega
def YF(r:Ro):Tr:=if r.at_=0 then .zero else .keep r
theorem ZOU{lv:Nat}{N:ZJ}(hr:Rd st lv ix N){r:Ro}(h:RtOk N r):S Tb J7 [.ptr lv ix 0 0 0,r.av] st=some (.tup [(YF r).av,.int .i64 0],st):=by
 unfold YF
 rcases h with rfl|⟨h0,x,h1,h2,h3,h4⟩
 ·rw[if_pos (by rfl)];exact ZlX
 ·rw[if_neg h0];exact Zrl hr h1 h2 h0 h3 h4
theorem Zkd{L:List Blk}{b:Nat}{r:Ro}:S Tb ZAR [.ptr la (b+5) 0 0 0,r.av] ⟨A,false,L⟩=some (.func (.func JX) [] [.ptr A.length L.length 0 0 0,.ptr A.length (L.length+1) 0 0 0],⟨A,false,L++[.arr 1 0 [.ptr la (b+5) 0 0 0],.arr 5 0 [r.av]]⟩):=by
 refine ZAM Y ?_
 have e0:(⟨A,false,L⟩:St)=⟨A,false,L++[]⟩:=by rw[lN]
 rw[e0];unfold Ro.av
 repeat'(first|refine Yx Y Y Y Y Y ?_|refine ZE ?_|refine ZD ?_|refine ZG Y ?_|refine ZB Y ?_|refine ZC ?_|refine Xb Y Y ?_|refine ZQ ?_|refine ZO ?_)
 refine (YO (.inr Y) Y Y Y Y).trans ?_;rfl
theorem Zhx{b a1 a2 a3 x1 x2 x3:Nat}(st:St)(h1:a1<b)(h2:a2<b)(h3:a3<b):ZZ QF b st (.func (.func f) [] [.ptr a1 x1 0 0 0,.ptr a2 x2 0 0 0,.ptr a3 x3 0 0 0])=some (.func (.func f) [] [.ptr a1 x1 0 0 0,.ptr a2 x2 0 0 0,.ptr a3 x3 0 0 0],st):=by
 simp only[ZZ,QF,ZgI,if_true,mapSt,oS,if_pos h1,if_pos h2,if_pos h3,Y1]
theorem ZrL{TY:Tab}(hT:TLe Tb TY){σ:List Nat->St}{N:ZJ}(hN:GoodN N){b lv:Nat}(hcw:ZY caps=caps)(hRd:∀v,Rd (σ v) la (b+5) N)(hlen:∀v,(σ v).A.length=(σ []).A.length)
 {B:Nat} (hy:∀v h x more ro L,v.length<B->lk N h=some x->S TY (yB+lv) (.int .u64 (h:Nat)::Zlu x::caps) ⟨(σ v).ps++more,ro,L⟩=some (.bool true,⟨(σ (v++[h])).ps++more,ro,L⟩))
 {r:Ro} (hr:RtOk N r) (hB:(Zh N r).length<=B) {l1 i1 l4 i4:Nat} (ha:∀v,(σ v).get l1 i1=some (.arr 1 0 [.ptr la (b+5) 0 0 0])) (hro:∀v,(σ v).get l4 i4=some (.arr 5 0 [r.av])) :
 S TY JX [.func (.yield lv) [] caps,.ptr l1 i1 0 0 0,.ptr l4 i4 0 0 0] ⟨(σ []).ps,false,[]⟩=some (.tup [],⟨(σ (Zh N r)).ps,false,[]⟩):=by
 refine ZAc (hT _ _ Y) (fun A hA=>?_)
 have hA0:A=(σ []).ps++[(false,[])]:=hA
 have g4:∀L,St.get ⟨A,false,L⟩ l4 i4=some (.arr 5 0 [r.av]):=fun L=>by rw[hA0];exact ZId (hro []) _ _ _
 have l1l:l1<A.length+1:=by have:=St.get_le (ha []);rw[hA0];simp;omega
 unfold Ro.av at g4
 have hNW:∀yv wv,yv=Blk.arr 1 0 [.func (.yield lv) [] caps]->wv=Blk.arr 1 0 [.func (.func YS) [] [.ptr l1 i1 0 0 0,.ptr A.length 0 0 0 0,.ptr A.length 1 0 0 0]]->NW σ lv caps la b [(false,[])] false [yv,wv] l1 i1 A.length 0 A.length 1:=by
  rintro yv wv rfl rfl
  have hl:∀v,A.length=((σ v).ps++[(false,([]:List Blk))]).length:=fun v=>by rw[hA0];simp[hlen v]
  refine⟨fun v=>ZId (ha v) _ _ _,fun v=>?_,fun v=>?_⟩
  ·rw[hl v,St.get_cur];rfl
  ·rw[hl v,St.get_cur];rfl
 by_cases h0:r.at_=0
 ·have e:Zh N r=[]:=by unfold Zh;rw[if_pos h0]
  rw[e]
  repeat'(first|refine ZE ?_|refine ZD ?_|refine ZU Y Y ?_|refine ZB Y ?_|refine ZC ?_|(refine cm0 Y Y Y ?_ ?_<;>intro _<;>try omega)|refine ZH Y ?_|refine Xb Y Y ?_|refine Ze Y Y Y ?_|refine Zr Y Y Y (Zhx _ l1l (Nat.lt_succ_self _) (Nat.lt_succ_self _)) Y Y ?_|refine Z9 Y (g4 _) Y Y ?_|refine ZI ?_|refine ZO ?_)
  all_goals try omega
  refine Zi hA (.inl Y) Y Y Y Y ?_;rfl
 ·have e:Zh N r=Ql N r.h r.at_:=by unfold Zh;rw[if_neg h0]
  rw[e]at hB ⊢
  obtain⟨x,h1,h2,h3,h4⟩:∃x,lk N r.at_=some x/\NdOk x/\x.h=r.h/\x.mea=r.m:=by
   rcases hr with rfl|q
   ·exact absurd Y h0
   ·exact q.2
  have hW:=Zr2 hT hN hcw hRd hlen hy r.h r.at_ x h1 h3 [] [(false,[])] false _ l1 i1 A.length 0 A.length 1 (by simpa using hB) (hNW _ _ rfl rfl)
  rw[<- hA0,lE]at hW
  repeat'(first|refine ZA Y Y Y hW ?_|refine ZE ?_|refine ZD ?_|refine ZU Y Y ?_|refine ZP Y Y Y Y ?_|refine ZB Y ?_|refine ZC ?_|(refine cm0 Y Y Y ?_ ?_<;>intro _<;>try omega)|refine ZW Y ?_|refine Xb Y Y ?_|refine Ze Y Y Y ?_|refine Zr Y Y Y (Zhx _ l1l (Nat.lt_succ_self _) (Nat.lt_succ_self _)) Y Y ?_|refine Z9 Y (g4 _) Y Y ?_|refine ZO ?_)
  all_goals try omega
  refine Zi (st:=⟨(σ _).ps,false,[]⟩) Y (.inl Y) Y Y Y Y ?_;rfl
noncomputable def t1:List (FuncId × Ent):=(XO,.base (rfO Tb p_rope_Check))::tl
noncomputable def T1:Tab:=ZAC t1
theorem le1:TLe Tb T1:=fun g y hg=>by
 unfold T1 t1;simp only[ZAC];rw[if_neg]
 ·exact hg
 ·intro e;subst e
  have:ZAC tl XO=none:=by decide +kernel
  unfold Tb at hg;rw[this]at hg;simp at hg
theorem Zf8{b:Nat}{N:ZJ}(hN:GoodN N)(hR:Rd st la (b+5) N){r:Ro}(hr:RtOk N r):S T1 XO [.ptr la (b+5) 0 0 0,r.av] st=some (.int .i64 0,st):=by
 refine s_rf (rf:=p_rope_Check) Y (fun A hA=>?_)
 have hK:=fun L=>ZOU (hR.push hA (ro:=false) (L:=L)) hr
 have hNd:=fun L=>Zkd (A:=A) (L:=L) (la:=la) (b:=b) (r:=r)
 obtain⟨LF,hLF⟩:∃LF:List Blk,LF=[.arr 5 0 [r.av],.arr 7 0 [(YF r).av],.arr 1 0 [.int .i64 0],.arr 1 0 [.ptr la (b+5) 0 0 0],.arr 5 0 [r.av]]:=⟨_,rfl⟩
 have hseq:=fun (caps:LV) (hcw:ZY caps=caps) (o:LV->St->OS) hy=>ZrL (TY:=ZSW Tb (A.length+1) o) (Zkb Znv _ _) (σ:=fun _=>⟨A,false,LF⟩) hN (lv:=A.length+1) (caps:=caps) hcw (fun _=>hR.push hA) (fun _=>rfl) (B:=(Zh N r).length) hy hr (Nat.le_refl _) (l1:=A.length) (i1:=3) (l4:=A.length) (i4:=4) (fun _=>by rw[St.get_cur,hLF];rfl) (fun _=>by rw[St.get_cur,hLF];rfl)
 unfold Ro.av at *
 repeat'(first|refine ZE ?_|refine ZD ?_|refine ZG Y ?_|refine ZP Y Y Y Y ?_|refine Zs Y Y ?_|refine ZB Y ?_|refine ZC ?_|(refine cm0 Y Y Y ?_ ?_<;>intro _<;>try omega)|refine ZH Y ?_|refine Ze Y Y Y ?_|refine Zr Y Y Y Y Y Y ?_|refine Zr Y Y Y (Z7 _ _ _) (QQ _ _) Y ?_|refine ZA Y Y (by first|rfl|(simp only[lE,lN,lC,ZY,ZS,ZV];first|done|rfl)) (hK _) ?_|refine ZA Y Y (by first|rfl|(simp only[lE,lN,lC,ZY,ZS,ZV];first|done|rfl)) (hNd _) ?_|refine ZI ?_|refine ZO ?_)
 all_goals try contradiction
 have hS:=hseq (ZJo 30 [(7,.ptr A.length 2 0 0 0),(21,.func (.func JX) [] [.ptr A.length 3 0 0 0,.ptr A.length 4 0 0 0]),(23,.any)]) rfl (ZAq (S Tb) itS p_rope_Check.nt p_rope_Check.rng) (fun v h x more ro L _ hx=>Zkc _ _ _ _ _ (Zhw rfl (fun A' hA'=>by
  unfold Zlu
  repeat'(first|refine ZD ?_|refine ZB Y ?_|refine Ze Y Y Y ?_|refine Zr Y Y Y Y Y Y ?_|refine ZO ?_)
  all_goals try omega
  refine⟨rfl,?_⟩
  repeat'(first|refine ZE ?_|refine ZD ?_|refine ZU Y Y ?_|refine ZP Y Y Y Y ?_|refine ZB Y ?_|refine ZC ?_|(refine cm0 Y Y Y ?_ ?_<;>intro _<;>try omega)|refine ZH Y ?_|refine ZI ?_|refine ZL ?_|refine ZO ?_|refine Zz ?_)
  all_goals try contradiction
  exact⟨rfl,hA'⟩)))
 rw[hLF]at hS
 refine .inr ⟨rfl,_,Znt (g:=JX) Y (by decide) hS,?_⟩
 repeat'(first|refine ZE ?_|refine ZD ?_|refine ZG Y ?_|refine ZP Y Y Y Y ?_|refine ZB Y ?_|refine ZC ?_|refine ZI ?_|refine ZQ ?_|refine ZO ?_)
 refine Zi hA (by simp) Y Y Y Y ?_
 rfl
end Go.Q15
namespace Go.QAbs
variable {cv:AV}{a:Act}{ro:Bool}{e:Env}{f:FuncId}{A:List (Bool × List Blk)}{args caps cls:LV}{l:List Nat}{clock d i ip ix j la mx n ob ox rx tx ver wb:Nat}{o:Oper}{s st:St}
theorem ZCS{l:Nat}{b:Blk}(h:s.get l i=some b)(more:List (Bool × List Blk))(ro:Bool)(L:List Blk):St.get ⟨s.ps++more,ro,L⟩ l i=some b:=by
 have hl:=St.get_le h;have h1:=ZX (A:=s.ps) rfl (ro:=ro) (L:=L) h;unfold St.get at h1 ⊢
 have e1:l≠s.ps.length:=by simp;omega
 have e2:l≠(s.ps++more).length:=by simp;omega
 simp only[if_neg e1,if_neg e2]at h1 ⊢
 rw[jL (by simp;omega)]
 exact h1
theorem Zke{lv:Nat}(hl:lv<=s.A.length)(h:s.wr lv)(more:List (Bool × List Blk))(ro:Bool)(L:List Blk):St.wr ⟨s.ps++more,ro,L⟩ lv:=by
 have h1:=XM (A:=s.ps) rfl hl h (ro:=ro) (L:=L);unfold St.wr at h1 ⊢
 have e1:lv≠s.ps.length:=by simp;omega
 have e2:lv≠(s.ps++more).length:=by simp;omega
 simp only[if_neg e1,if_neg e2]at h1 ⊢
 rw[jL (by simp;omega)]
 exact h1
theorem Zhy{lv:Nat}{b:Blk}(hl:lv<=s.A.length)(more:List (Bool × List Blk))(ro:Bool)(L:List Blk):St.upd ⟨s.ps++more,ro,L⟩ lv ix b=⟨(s.upd lv ix b).ps++more,ro,L⟩:=by
 have h1:=Jh (A:=s.ps) (ro:=ro) (L:=L) rfl hl (ix:=ix) (b:=b);unfold St.upd at h1 ⊢
 have e1:lv≠s.ps.length:=by simp;omega
 have e2:lv≠(s.ps++more).length:=by simp;omega
 simp only[if_neg e1,if_neg e2]at h1 ⊢;simp only[St.mk.injEq,and_true]at h1 ⊢
 rw[jL (by simp;omega),List.set_append_left _ _ (by simp;omega),h1]
theorem ZRl:∀ {ks:List (Nat × Nat)} {s:St} {bs:List Blk} {more:List (Bool × List Blk)} {ro:Bool} {L:List Blk},(∀k∈ks,k.1<=s.A.length)->Qp ⟨s.ps++more,ro,L⟩ ks bs=⟨(Qp s ks bs).ps++more,ro,L⟩
 | [],_,bs,_,_,_,_=>by cases bs<;>rfl
 | _::_,_,[],_,_,_,_=>rfl
 | k::ks,s,b::bs,more,ro,L,hk=>by
  rw[Qp,Zhy (hk k (by simp)),ZRl (s:=s.upd k.1 k.2 b) (fun q hq=>by rw[St.upd_A];exact hk q (by simp[hq]))]
  rfl
theorem Cl.more{ks:List (Nat × Nat)}{bs:List Blk}(h:Cl s ks bs)(more:List (Bool × List Blk))(ro:Bool)(L:List Blk):Cl ⟨s.ps++more,ro,L⟩ ks bs :=
 ⟨h.nd,h.len,fun k hk=>Zke (h.le k hk) (h.wr k hk) _ _ _,fun j lv ix b h1 h2=>ZCS (h.get j lv ix b h1 h2) _ _ _⟩
end Go.QAbs
namespace Go.Q15
open Go Go.QAbs
variable {r':AR}{cv:AV}{a:Act}{ro:Bool}{e:Env}{f:FuncId}{it:It}{c:ItC}{A:List (Bool × List Blk)}{args caps cls:LV}{l:List Nat}{clock d i ip ix j la mx n ob ox rx tx ver wb:Nat}{x:Nd}{o:Oper}{s st:St}{t:Tr}
theorem Znw:∀f x,T1 f=some x->f<yB:=ZIe (l:=t1) (by decide +kernel)
noncomputable def t3:List (FuncId × Ent):=(ZaZ,.base (rfO T1 ZJu))::(XN,.base (rfO T1 p_rope_Nodes))::t1
noncomputable def T3:Tab:=ZAC t3
theorem ZFl{l:List (FuncId × Ent)}{x:Ent}(h:ZAC l f=none):TLe (ZAC l) (ZAC ((f,x)::l)):=fun g y hg=>by
 simp only[ZAC];rw[if_neg]
 ·exact hg
 ·intro e;subst e;rw[h]at hg;simp at hg
theorem le13:TLe T1 T3:=fun g y hg=>ZFl (l:=(XN,.base (rfO T1 p_rope_Nodes))::t1) (by decide +kernel) g y (ZFl (l:=t1) (by decide +kernel) g y hg)
theorem le3:TLe Tb T3:=fun g y hg=>le13 g y (le1 g y hg)
theorem up3{r:AV × St}(h:S Tb f args st=some r):S T3 f args st=some r:=Zdd le3 _ _ _ _ h
theorem up1{r:AV × St}(h:S Tb f args st=some r):S T1 f args st=some r:=Zdd le1 _ _ _ _ h
theorem up13{r:AV × St}(h:S T1 f args st=some r):S T3 f args st=some r:=Zdd le13 _ _ _ _ h
theorem Zlv(l:List B8):Q9 1 (l.map AV.str)=true:=by
 induction l with
 | nil=>rfl
 | cons b s ih=>rw[jC,Q9,List.all_cons];exact Bool.and_eq_true_iff.2 ⟨rfl,ih⟩
def QY(w:List Nat)(h:Nat):List Nat:=if h∈w then w else w++[h]
def Z1(v:List Nat):List Nat:=v.foldl QY []
theorem Zjb(v:List Nat)(h:Nat):Z1 (v++[h])=QY (Z1 v) h:=by unfold Z1;rw[List.foldl_append];rfl
theorem Zde{w:List Nat}{h x:Nat}:x∈QY w h↔x∈w\/x=h:=by
 unfold QY
 split
 ·rename_i q;exact⟨.inl,fun p=>p.elim id fun e=>e▸q⟩
 ·simp
theorem Jg:∀v:List Nat,(Z1 v).Nodup/\(∀x,x∈Z1 v↔x∈v)/\(Z1 v).length<=v.length:=by
 intro v
 have key:∀(v w:List Nat),w.Nodup->(v.foldl QY w).Nodup/\(∀x,x∈v.foldl QY w↔x∈w\/x∈v)/\(v.foldl QY w).length<=w.length+v.length:=by
  intro v
  induction v with
  | nil=>intro w h;exact⟨h,by simp,by simp⟩
  | cons a v ih =>
   intro w h
   have h1:(QY w a).Nodup:=by
    unfold QY;split
    ·exact h
    ·rename_i q
     rw[List.nodup_append]
     refine⟨h,by simp,fun x hx y hy=>?_⟩
     rw[List.mem_singleton]at hy;intro e;rw[e,hy]at hx;exact q hx
   obtain⟨i1,i2,i3⟩:=ih (QY w a) h1
   refine⟨i1,fun x=>?_,?_⟩
   ·rw[List.foldl_cons,i2,Zde,List.mem_cons,or_assoc]
   ·have:(QY w a).length<=w.length+1:=by unfold QY;split<;>simp
    rw[List.foldl_cons,List.length_cons];omega
 have:=key v [] List.nodup_nil
 exact⟨this.1,fun x=>by have h:=this.2.1 x;simpa [Z1] using h,by have h:=this.2.2;simpa [Z1] using h⟩
def ndL(A:List (Bool × List Blk))(la b:Nat)(r:Ro)(w:List Nat):List Blk:=[.arr 5 0 [r.av],.arr 1 w.length (w.map QB),.arr 1 0 [.ref A.length 1 w.length 0 w.length],.map (YH w),.arr 1 0 [.map A.length 3],.arr 1 0 [.ptr la (b+5) 0 0 0],.arr 5 0 [r.av]]
def ndF(A:List (Bool × List Blk))(la b:Nat)(r:Ro)(v:List Nat):St:=⟨A,false,ndL A la b r (Z1 v)⟩
def ndK(A:List (Bool × List Blk)):List (Nat × Nat):=[(A.length,1),(A.length,2),(A.length,3)]
def ndB(A:List (Bool × List Blk))(w:List Nat):List Blk:=[.arr 1 w.length (w.map QB),.arr 1 0 [.ref A.length 1 w.length 0 w.length],.map (YH w)]
theorem Zsk(A:List (Bool × List Blk))(la b:Nat)(r:Ro)(w:List Nat):Cl ⟨A,false,ndL A la b r w⟩ (ndK A) (ndB A w):=by
 refine⟨by simp[ndK],rfl,fun k hk=>?_,fun j lv ix b h1 h2=>?_⟩
 ·simp only[ndK,List.mem_cons,List.not_mem_nil,or_false]at hk
  rcases hk with rfl|rfl|rfl<;>simp[St.wr]
 ·match j,h1,h2 with
  | 0,h1,h2=>obtain⟨rfl,rfl⟩:=Prod.mk.inj (Option.some.inj h1);obtain rfl:=Option.some.inj h2;exact St.get_cur ..
  | 1,h1,h2=>obtain⟨rfl,rfl⟩:=Prod.mk.inj (Option.some.inj h1);obtain rfl:=Option.some.inj h2;exact St.get_cur ..
  | 2,h1,h2=>obtain⟨rfl,rfl⟩:=Prod.mk.inj (Option.some.inj h1);obtain rfl:=Option.some.inj h2;exact St.get_cur ..
  | n+3,h1,h2=>simp[ndK]at h1
theorem Zr3(A:List (Bool × List Blk))(la b:Nat)(r:Ro)(w u:List Nat):Qp ⟨A,false,ndL A la b r w⟩ (ndK A) (ndB A u)=⟨A,false,ndL A la b r u⟩:=by
 simp[Qp,St.upd,ndL,ndK,ndB]
theorem Znx{N:ZJ}{b:Nat}{r:Ro}(hc7:∃rest,caps=.any::.any::.any::.any::.any::.any::.any::.ptr A.length 2 0 0 0::.ptr A.length 4 0 0 0::rest/\rest.length=24)(v:List Nat)(hlim:(Z1 v).length<4000000000)(h:Nat)(x:Nd)(more:List (Bool × List Blk))(ro:Bool)(L:List Blk)(hx:lk N h=some x):
 ZAq (S T1) itS p_rope_Nodes.nt p_rope_Nodes.rng (.int .u64 (h:Nat)::Zlu x::caps) ⟨(ndF A la b r v).ps++more,ro,L⟩=some (.bool true,⟨(ndF A la b r (v++[h])).ps++more,ro,L⟩):=by
 obtain⟨rest,rfl,hrl⟩:=hc7;unfold ndF;rw[Zjb]
 generalize Z1 v=w at *
 have hwl:(w.map QB).length=w.length:=List.length_map ..
 have H:=(Zsk A la b r w).more more ro L
 refine Zhw (by simp[hrl];rfl) (fun A' hA'=>?_)
 rw[<- H.same]at hA'
 have g2:=fun L'=>H.old hA' rfl rfl (ro:=false) (L:=L') (j:=1) rfl rfl
 have g3:=fun L'=>H.old hA' rfl rfl (ro:=false) (L:=L') (j:=2) rfl rfl
 have g4:∀L',St.get ⟨A',false,L'⟩ A.length 4=some (.arr 1 0 [.map A.length 3]):=fun L'=>by
  rw[hA',H.same];exact ZX Y (ZId (s:=⟨A,false,ndL A la b r w⟩) (St.get_cur ..) more ro L)
 have hlk:=fun L'=>ZFk (g3 L') h
 unfold Zlu
 by_cases hm:h∈w
 ·simp only[decide_eq_true hm]at hlk
  repeat'(first|refine ZD ?_|refine ZG Y ?_|refine ZB Y ?_|refine ZO ?_)
  refine⟨rfl,?_⟩
  repeat'(first|refine ZE ?_|refine ZD ?_|refine ZG Y ?_|refine ZB Y ?_|refine ZC ?_|refine ZH Y ?_|refine JC Y Y ?_|refine Z9 Y (g4 _) Y Y ?_|refine Ya Y Y (hlk _) ?_|refine ZI ?_|refine ZL ?_|refine ZO ?_|refine Zz ?_)
  all_goals try contradiction
  refine⟨rfl,hA'.trans ?_⟩;rw[H.same];unfold QY;rw[if_pos hm]
 ·simp only[decide_eq_false hm]at hlk
  repeat'(first|refine ZD ?_|refine ZG Y ?_|refine ZB Y ?_|refine ZO ?_)
  refine⟨rfl,?_⟩
  repeat'(first|refine ZE ?_|refine ZD ?_|refine ZG Y ?_|refine ZB Y ?_|refine ZC ?_|refine ZW Y ?_|refine JC Y Y ?_|refine Z9 Y (g4 _) Y Y ?_|refine Ya Y Y (hlk _) ?_|refine ZL ?_)
  all_goals try contradiction
  refine ZnR H hA' Y Y (j:=2) Y Y Y Y Y Y Y (ZOS h w hm) (fun A2 hA2 hl2=>?_)
  have k2:=fun L'=>H.old hA2 rfl rfl (ro:=false) (L:=L') (j:=1) rfl rfl
  repeat'(first|refine Z9 Y (k2 _) Y Y ?_|refine ZD ?_|refine ZG Y ?_|refine ZB Y ?_|refine ZC ?_|refine Qc Y Y Y Y ?_)
  refine ZkM (es:=w.map QB) (ys:=[.int .u64 h]) H hA2 Y Y (j:=0) Y Y (by rw[hwl];rfl) rfl rfl rfl rfl (by rw[hwl,List.length_singleton];omega) (by decide) (fun A3 hA3 hl3=>?_)
  refine ZRa H hA3 Y Y (j:=1) Y Y Y Y Y (Ja _ (Nat.lt_succ_self _)) Y (fun A4 hA4 hl4=>?_)
  repeat'(first|refine ZB Y ?_|refine ZO ?_|refine Zz ?_)
  refine⟨rfl,hA4.trans ?_⟩;have e:=Zr3 A la b r w (w++[h]);unfold QY;rw[if_neg hm,<- e]
  rw[<- ZRl (fun k hk=>by simp only[ndK,List.mem_cons,List.not_mem_nil,or_false]at hk;rcases hk with rfl|rfl|rfl<;>exact Nat.le_refl _)]
  simp only[ndB,lL,List.length_singleton,List.length_map,List.map_append];rfl
theorem ZVx{b:Nat}{N:ZJ}(hN:GoodN N)(hR:Rd st la (b+5) N){r:Ro}(hr:RtOk N r):S T3 XN [.ptr la (b+5) 0 0 0,r.av] st=some (.tup [.lit ((Z1 (Zh N r)).map QB),.int .i64 0],st):=by
 refine s_rf (rf:=p_rope_Nodes) Y (fun A hA=>?_)
 have hK:=fun L=>Zf8 hN (hR.push hA (ro:=false) (L:=L)) hr
 have hNd:=fun L=>up1 (Zkd (A:=A) (L:=L) (la:=la) (b:=b) (r:=r))
 have hlen:=YD hN hr
 have hseq:=fun (caps:LV) (hcw:ZY caps=caps) (o:LV->St->OS) hy=>ZrL (TY:=ZSW T1 (A.length+1) o) (fun g y hg=>Zkb Znw _ _ g y (le1 g y hg)) (σ:=ndF A la b r) hN (lv:=A.length+1) (caps:=caps) hcw (fun _=>hR.push hA) (fun _=>rfl) (B:=100000000) hy hr (by omega) (l1:=A.length) (i1:=5) (l4:=A.length) (i4:=6) (fun _=>St.get_cur ..) (fun _=>St.get_cur ..)
 have hS:=hseq (ZJo 33 [(7,.ptr A.length 2 0 0 0),(8,.ptr A.length 4 0 0 0),(19,.func (.func JX) [] [.ptr A.length 5 0 0 0,.ptr A.length 6 0 0 0]),(20,.any)]) rfl (ZAq (S T1) itS p_rope_Nodes.nt p_rope_Nodes.rng) (fun v h x more ro L hv hx=>Zkc _ _ _ _ _ (Znx ⟨_,rfl,rfl⟩ v (by have:=(Jg v).2.2;omega) h x more ro L hx))
 unfold ndF at hS
 generalize hes:Z1 (Zh N r)=l at *
 have e0:ndL A la b r (Z1 [])=ndL A la b r []:=rfl;rw[e0]at hS;unfold ndL at hS
 unfold Ro.av at *
 repeat'(first|refine ZE ?_|refine ZD ?_|refine ZG Y ?_|refine ZP Y Y Y Y ?_|refine ZB Y ?_|refine ZC ?_|(refine cm0 Y Y Y ?_ ?_<;>intro _<;>try omega)|refine ZH Y ?_|refine Ze Y Y Y ?_|refine ZD1 Y ?_|refine ZBD Y ?_|refine ZA Y Y Y (hK _) ?_|refine ZI ?_)
 all_goals try contradiction
 refine Zr Y Y Y (by simp only[ZZ,QF,if_pos (Nat.lt_succ_self _)]) Y Y ?_
 repeat'(first|refine ZE ?_|refine ZD ?_|refine ZG Y ?_|refine ZP Y Y Y Y ?_|refine ZB Y ?_|refine ZC ?_|refine ZA Y Y Y (hNd _) ?_|refine ZI ?_|refine ZO ?_)
 refine .inr ⟨rfl,_,Znt (g:=JX) Y (by decide) hS,?_⟩
 repeat'(first|refine ZE ?_|refine ZD ?_|refine ZG Y ?_|refine ZP Y Y Y Y ?_|refine ZB Y ?_|refine ZC ?_|refine ZI ?_|refine ZQ ?_|refine ZO ?_)
 exact ZHB hA (.inr Y) Y Y (by simp) (fun v hv=>by obtain⟨x,_,rfl⟩:=List.mem_map.1 hv;rfl) rfl rfl
end Go.Q15
namespace Go.QAbs
open Go.RowKit (Below)
open Go.ChangeMaps (setBlock)
variable {cv:AV}{a:Act}{ro:Bool}{e:Env}{f:FuncId}{A:List (Bool × List Blk)}{args caps cls:LV}{l:List Nat}{clock d i ip ix j la mx n ob ox rx tx ver wb:Nat}{o:Oper}{s st:St}
def ZRm:Obj->Bool
 | .mapIter _ _ _ _=>true
 | _=>false
structure Jk(r:Nat)(W W':World):Prop where
 os:W'.os=W.os
 tape:W'.tape=W.tape
 output:W'.output=W.output
 size:W.heap.size<=W'.heap.size
 blk:∀i,i<W.heap.size->i≠r->W'.heap[i]?=W.heap[i]?
 it:W.heap.size<=r\/∃o o',W.heap[r]?=some o/\ZRm o=true/\W'.heap[r]?=some o'/\ZRm o'=true
section
variable {P:Program}{W0:World}{B0:Bse}{st st':St}{ρ:Rho}{W W':World}{e:Env}{r:Nat}
theorem Jk.heap(h:Jk r W W'){o:Obj}(ho:W.heap[i]?=some o)(hi:ZRm o=false):W'.heap[i]?=some o:=by
 have hlt:=QU ho
 by_cases e:i=r
 ·subst e
  rcases h.it with q|⟨o1,o2,q1,q2,_⟩
  ·omega
  ·rw[q1]at ho;simp only[oJ]at ho;subst ho;rw[q2]at hi;simp at hi
 ·rw[h.blk i hlt e];exact ho
theorem Jk.cell(h:Jk r W W'){a:Addr}{v:Value}(hv:W.cell? a=some v):W'.cell? a=some v:=by
 unfold World.cell? at hv ⊢
 cases ho:W.heap[a.block]? with
 | none=>rw[ho]at hv;simp at hv
 | some o =>
  rw[ho]at hv
  cases o<;>simp at hv
  rename_i c t f
  rw[h.heap ho rfl]
  simpa using hv
theorem Jk.frozen(h:Jk r W W'){a:Addr}(hv:(W.cell? a).isSome=true):W'.frozen? a=W.frozen? a:=by
 unfold World.cell? at hv
 cases ho:W.heap[a.block]? with
 | none=>rw[ho]at hv;simp at hv
 | some o =>
  rw[ho]at hv
  cases o<;>simp at hv
  rename_i c t f
  unfold World.frozen?;rw[h.heap ho rfl,ho]
theorem Rel.jk(h:Rel W0 B0 st ρ W)(hj:Jk r W W')(hr:B0.n<=r):Goes W0 B0 st ρ W st ρ W':=by
 have hle:∀m,(cx st ρ W m).le (cx st ρ W' m):=fun m=>⟨fun b o v q=>⟨hj.cell q.1,q.2⟩,fun _ _ _ _ _ _ q=>q,fun _ _ _ _ _ _ q=>q,fun _ _ _ q=>q,fun _ _ _ q=>q⟩
 have hb0:=h.b0
 have hbel:BelowS B0 W0 W':=by
  refine h.below.trans ⟨⟨hj.os,hj.tape,hj.output,hj.size,fun i hi=>hj.blk i (by omega) (by omega)⟩,fun i ob hi hs=>hj.heap hi (by cases ob<;>simp_all [Jd,ZRm])⟩
 refine⟨⟨hbel,Nat.le_trans h.b0 hj.size,h.yl,?_,h.sep,?_,h.msep⟩,⟨rfl,fun m _=>hle m,fun _ r h=>⟨r,h,rfl,fun _=>rfl⟩,rfl,fun _=>rfl,rfl⟩⟩
 ·intro lv ix w ver es hg
  obtain⟨a1,a2,a3⟩:=h.arr lv ix w ver es hg
  refine⟨a1,fun i e he=>?_,fun j hj'=>?_⟩
  ·obtain⟨x,h1,h2,h3⟩:=a2 i e he
   exact⟨x,h1.mono (hle lv),h2,h3.mono fun _ _ _=>hj.cell⟩
  ·obtain⟨m1,m2,m3⟩:=a3 j hj'
   obtain⟨u,hu⟩:=Option.isSome_iff_exists.1 m2
   exact⟨m1,by rw[hj.cell hu];rfl,by rw[hj.frozen m2];exact m3⟩
 ·intro lv ix es hg
  obtain⟨m1,en,clock,m2,m3,m4⟩:=h.map lv ix es hg
  refine⟨m1,en,clock,hj.heap m2 Y,m3,fun i k v hk=>?_⟩
  obtain⟨n1,x,n2,n3,n4⟩:=m4 i k v hk;exact⟨n1,x,n2,n3.mono (hle lv),n4.mono (hle lv)⟩
theorem Jk.trans{W W1 W2:World}{r:Nat}(hr:W.heap.size<=r)(h:Jk r W W1)(k:Jk r W1 W2):Jk r W W2 :=
 ⟨k.os.trans h.os,k.tape.trans h.tape,k.output.trans h.output,Nat.le_trans h.size k.size,fun i hi hne=>(k.blk i (Nat.lt_of_lt_of_le hi h.size) hne).trans (h.blk i hi hne),.inl hr⟩
theorem Jk.step{w1:World}(h1:w1=W\/w1=W.drew){o o':Obj}(ho:W.heap[r]?=some o)(hi:ZRm o=true)(hi':ZRm o'=true):Jk r W (setBlock w1 r o'):=by
 have hh:w1.heap=W.heap:=by rcases h1 with rfl|rfl<;>rfl
 have hlt:=QU ho
 refine⟨by rcases h1 with rfl|rfl<;>rfl,by rcases h1 with rfl|rfl<;>rfl,by rcases h1 with rfl|rfl<;>rfl,by simp[setBlock,hh],fun i hi hne=>?_,.inr ⟨o,o',ho,hi,?_,hi'⟩⟩
 ·simp only[setBlock,hh]
  rw[Array.getElem?_setIfInBounds,if_neg (fun q=>hne q.symm)]
 ·simp only[setBlock,hh]
  rw[Array.getElem?_setIfInBounds,if_pos rfl,if_pos hlt]
theorem ZOV{ops:Array Oper}{Q:Exit->Act->World->Prop}{K:Act->World->Prop}{x:Value}(ho:ops[i]?=some o)(hg:o.guard=none)(hnd:∀c,o.op≠.defer c)
 (hrun:(execOp a.eval o).run P W=.ok (.value x) W') (hK:K (a.put o.dst x) W'):wpOpIn (fen none) 0 P ops Q i K a W:=by
 unfold wpOpIn
 have hw:Region.wanted o (yielded ops a.tmps)=true:=by unfold Region.wanted;rw[hg]
 simp only[ho,hw,if_true]
 refine⟨fun _ _=>trivial,?_⟩
 rw[Oper.semAt_eq _ _ _ hnd,hrun];exact hK
theorem ZSJ{t k el:TypeId}{m:Operand}(hop:o.op=.range t m)(ht:P.underlying t=some (.map k el)){b:Nat}{en:Array MapEntry}(hm:a.eval m=.map (some b))(hb:W.heap[b]?=some (.map en clock)):
 (execOp a.eval o).run P W=.ok (.value (.pointer (some ⟨W.heap.size,0,none⟩))) (W.alloc (.mapIter (some b) clock #[] clock)):=by
 simp only[execOp,hop,Instr.range,hm,Sem.run_bind,Zy ht,Result.andThen_ok,ZAo hb,Sem.run_pure];rfl
def XG(en:Array MapEntry)(seen:Array Nat):List MapEntry:=(leftOf en seen).toList
theorem run_nextOp{it:Operand}(hop:o.op=.next it false){r bm c0:Nat}{seen:Array Nat}{en:Array MapEntry}(hit:a.eval it=.pointer (some ⟨r,0,none⟩))
 (hr:W.heap[r]?=some (.mapIter (some bm) clock seen c0)) (hb:W.heap[bm]?=some (.map en clock)) (hf:MapFit en clock n) (hc:clock<=c0) :
 (XG en seen=[]/\(execOp a.eval o).run P W=.ok (.value (.tuple #[.bool false])) W) \/
 ∃x∈XG en seen,∃w1:World,(w1=W\/w1=W.drew)/\(execOp a.eval o).run P W=.ok (.value (.tuple #[.bool true,x.key,x.val])) (setBlock w1 r (.mapIter (some bm) clock (seen.push x.born) clock)):=by
 rcases run_next_at (P:=P) W o.type r bm clock c0 seen en clock hr hb hf.lt hc with⟨h1,h2⟩|⟨x,hx,w1,hw,h2⟩
 ·refine .inl ⟨List.eq_nil_of_length_eq_zero (by simpa [XG] using h1),?_⟩
  simp only[execOp,hop,hit];exact Y5 h2
 ·refine .inr ⟨x,hx,w1,hw,?_⟩
  simp only[execOp,hop,hit];exact Y5 h2
theorem ZSK{it:Operand}(hop:o.op=.entry it){r bm:Nat}{seen:Array Nat}{en:Array MapEntry}{x:MapEntry}(hit:a.eval it=.pointer (some ⟨r,0,none⟩))
 (hr:W.heap[r]?=some (.mapIter (some bm) clock (seen.push x.born) clock)) (hb:W.heap[bm]?=some (.map en clock)) (hf:MapFit en clock n) (hx:x∈en.toList) :
 (execOp a.eval o).run P W=.ok (.value (.tuple #[x.key,x.val])) W:=by
 simp only[execOp,hop,hit];exact Y5 (run_entry_at W r bm clock seen en clock x hr hb hx hf.nd)
theorem Zdf(en:Array MapEntry):XG en #[]=en.toList:=by
 simp[XG,leftOf]
theorem ZES{en:Array MapEntry}{seen:Array Nat}{x:MapEntry}(h:x∈XG en seen):x∈en.toList:=by
 simp only[XG,leftOf,Array.toList_filter,List.mem_filter]at h;exact h.1
theorem ZLZ{en:Array MapEntry}(hf:MapFit en clock n){seen:Array Nat}{x:MapEntry}(h:x∈XG en seen):(XG en seen).Perm (x::XG en (seen.push x.born)):=by
 have key:∀(l:List MapEntry),(l.map (·.born)).Nodup->x∈l->(seen.contains x.born=false) ->
  (l.filter fun e=>!seen.contains e.born).Perm (x::l.filter fun e=>!(seen.push x.born).contains e.born):=by
  intro l
  induction l with
  | nil=>intro _ h;simp at h
  | cons y l ih =>
   intro hn hx hs;simp only[jC,List.nodup_cons]at hn
   have hc:∀z:MapEntry,(seen.push x.born).contains z.born=(seen.contains z.born || z.born == x.born):=by
    intro z;rw[Bool.eq_iff_iff];simp[or_comm]
   by_cases hyx:y=x
   ·subst hyx
    simp only[List.filter_cons,hs,Bool.not_false,if_true,hc,beq_self_eq_true,Bool.or_true,Bool.not_true,jB,if_false];refine .cons _ ?_
    have:(l.filter fun e=>!seen.contains e.born)=l.filter fun e=>!(seen.contains e.born || e.born == y.born):=by
     apply List.filter_congr
     intro z hz
     have:z.born≠y.born:=fun q=>hn.1 (List.mem_map.2 ⟨z,hz,q⟩)
     simp[this]
    rw[this]
   ·have hx' : x ∈ l := by
     rcases List.mem_cons.1 hx with q|q
     ·exact absurd q.symm hyx
     ·exact q
    have hb:y.born≠x.born:=fun q=>hn.1 (List.mem_map.2 ⟨x,hx',q.symm⟩)
    have ih':=ih hn.2 hx' hs;simp only[hc]at ih' ⊢;simp only[List.filter_cons]
    have hyb:(y.born == x.born)=false:=by simpa using hb
    rw[hyb,Bool.or_false]
    split
    ·exact (List.Perm.cons _ ih').trans (.swap ..)
    ·exact ih'
 have hm:=h;simp only[XG,leftOf,Array.toList_filter,List.mem_filter,Bool.not_eq_true']at hm
 have:=key en.toList hf.nd hm.1 hm.2
 simpa [XG,leftOf] using this
end
section
variable {P:Program}{T:Tab}{O:Orc}{nt:Nat}{W0:World}{B0:Bse}{st st':St}{ρ:Rho}{W W':World}{e:Env}{r:Nat}
theorem Act.put_look{x:Value}(h:d<a.tmps.size):(a.put (some d) x).eval (.tmp d)=x:=by
 simp[Act.put,Act.eval,h]
theorem Act.put_other{t:Nat}{x:Value}(h:d≠t):(a.put (some d) x).eval (.tmp t)=a.eval (.tmp t):=by
 simp[Act.put,Act.eval,Array.getElem?_setIfInBounds,h]
theorem ZET{t:Operand}{k:Nat}{xs:Array Value}{x:Value}(hop:o.op=.extract t k)(ht:a.eval t=.tuple xs)(hx:xs[k]?=some x):(execOp a.eval o).run P W=.ok (.value x) W:=by
 simp[execOp,hop,ht,Instr.extract,hx,Sem.run]
def Zjc(W:World)(r:Nat):Array Nat:=match W.heap[r]? with|some (.mapIter _ _ s _)=>s|_=>#[]
structure Itr(W:World)(b r clock:Nat)(en:Array MapEntry)(seen:Array Nat):Prop where
 map:W.heap[b]?=some (.map en clock)
 it:∃c0,clock<=c0/\W.heap[r]?=some (.mapIter (some b) clock seen c0)
theorem Itr.seen{b:Nat}{en:Array MapEntry}{seen:Array Nat}(h:Itr W b r clock en seen):Zjc W r=seen:=by
 obtain⟨c0,_,h2⟩:=h.it
 simp[Zjc,h2]
theorem ZZ6{en:Array MapEntry}{b:Nat}(hf:MapFit en clock n){o3 o4:Oper}{it:Operand}{nx ok i6 id:Nat}{body:Code}{Q:Exit->Act->World->Prop}
 (h3:o3.op=.next it false) (g3:o3.guard=none) (d3:o3.dst=some nx) (h4:o4.op=.extract (.tmp nx) 0) (g4:o4.guard=none) (d4:o4.dst=some ok)
 (I:Array Nat->Act->World->Prop)
 (hI:∀seen a W,I seen a W->a.eval it=.pointer (some ⟨r,0,none⟩)/\nx<a.tmps.size/\ok<a.tmps.size/\Itr W b r clock en seen)
 (hdone:∀seen a W,I seen a W->XG en seen=[]->Q .normal ((a.put (some nx) (.tuple #[.bool false])).put (some ok) (.bool false)) W)
 (hstep:∀seen a W x w1,I seen a W->x∈XG en seen->(w1=W\/w1=W.drew)->Itr (setBlock w1 r (.mapIter (some b) clock (seen.push x.born) clock)) b r clock en (seen.push x.born) ->
  (setBlock w1 r (.mapIter (some b) clock (seen.push x.born) clock)).heap[r]?=some (.mapIter (some b) clock (seen.push x.born) clock)->Jk r W (setBlock w1 r (.mapIter (some b) clock (seen.push x.born) clock)) ->
  body.wpIn (fen none) 0 P (fun ex a2 W2=>ex=.normal/\I (seen.push x.born) a2 W2) ((a.put (some nx) (.tuple #[.bool true,x.key,x.val])).put (some ok) (.bool true)) (setBlock w1 r (.mapIter (some b) clock (seen.push x.born) clock)))
 {a:Act} (h0:I #[] a W):(Code.block id (.loop (.seq (.region i6 #[o3,o4] false) (.seq (.cond (.tmp ok) .skip (.exit id)) body)))).wpIn (fen none) 0 P Q a W:=by
 refine wpIn_block (wpIn_loop (fun a w=>∃seen,I seen a w) (fun _ w=>(XG en (Zjc w r)).length) ⟨_,h0⟩ ?_)
 rintro a W ⟨seen,hi⟩
 obtain⟨e1,e2,e3,e4⟩:=hI _ _ _ hi;obtain⟨c0,hc,hit⟩:=e4.it;refine wpIn_seq (wpIn_region ?_)
 show wpOpsIn (fen none) 0 P #[o3,o4] _ [0,1] a W
 rw[wpOpsIn_cons]
 have nd3:∀c,o3.op≠.defer c:=fun c q=>by rw[h3]at q;simp at q
 have nd4:∀c,o4.op≠.defer c:=fun c q=>by rw[h4]at q;simp at q
 rcases run_nextOp (P:=P) h3 e1 hit e4.map hf hc with⟨k1,k2⟩|⟨x,hx,w1,hw,k2⟩
 ·refine ZOV (o:=o3) Y g3 nd3 k2 ?_
  rw[wpOpsIn_cons,d3];refine ZOV (o:=o4) Y g4 nd4 (ZET h4 (Act.put_look e2) (x:=.bool false) Y) ?_;rw[d4]
  show Code.wpIn _ _ _ _ _ _ _
  refine wpIn_seq (wpIn_cond_false (Act.put_look (by simpa [Act.put] using e3)) (wpIn_exit ?_))
  show Exit.inBlock id Q (.exit id) _ _
  simp only[Exit.inBlock,if_true];exact hdone _ _ _ hi k1
 ·refine ZOV (o:=o3) Y g3 nd3 k2 ?_
  rw[wpOpsIn_cons,d3];refine ZOV (o:=o4) Y g4 nd4 (ZET h4 (Act.put_look e2) (x:=.bool true) Y) ?_;rw[d4]
  show Code.wpIn _ _ _ _ _ _ _
  refine wpIn_seq (wpIn_cond_true (Act.put_look (by simpa [Act.put] using e3)) (wpIn_skip ?_))
  show Code.wpIn _ _ _ _ _ _ _
  have hjk:=Jk.step (W:=W) hw hit rfl (o':=.mapIter (some b) clock (seen.push x.born) clock) rfl
  have hnew:(setBlock w1 r (.mapIter (some b) clock (seen.push x.born) clock)).heap[r]?=some (.mapIter (some b) clock (seen.push x.born) clock):=by
   have hlt:=QU hit
   have hh:w1.heap=W.heap:=by rcases hw with rfl|rfl<;>rfl
   simp[setBlock,hh,hlt]
  refine wpIn_mono (hstep seen a W x w1 hi hx hw ⟨hjk.heap e4.map Y,clock,Nat.le_refl _,hnew⟩ hnew hjk) ?_
  rintro ex a2 W2 ⟨rfl,h2⟩
  refine⟨⟨_,h2⟩,?_⟩;rw[(hI _ _ _ h2).2.2.2.seen,e4.seen,(ZLZ hf hx).length_eq]
  simp
end
structure OpIs(o:Oper)(op:Op)(d:Nat):Prop where
 op:o.op=op
 gd:o.guard=none
 dst:o.dst=some d
theorem YG{P:Program}{W W':World}{ops:Array Oper}{op:Op}{Q:Exit->Act->World->Prop}{K:Act->World->Prop}{x:Value}(h:OpIs o op d)(ho:ops[i]?=some o)(hnd:∀c,op≠.defer c)
 (hrun:(execOp a.eval o).run P W=.ok (.value x) W') (hK:K (a.put (some d) x) W'):wpOpIn (fen none) 0 P ops Q i K a W :=
 ZOV ho h.gd (fun c q=>hnd c (h.op.symm.trans q)) hrun (by rw[h.dst];exact hK)
section
variable {P:Program}{W0:World}{B0:Bse}{st st':St}{ρ:Rho}{W W':World}{e:Env}{a:Act}
theorem Jj{x:Operand}(hop:o.op=.move x\/o.op=.assign x):(execOp a.eval o).run P W=.ok (.value (a.eval x)) W:=by
 rcases hop with h|h<;>simp[execOp,h]
theorem Zdg{op:BinOp}{t yt:TypeId}{x y:Operand}{k:IntKind}{m n r:Int}(hop:o.op=.binOp op t x y yt)(hx:a.eval x=.int k m)(hy:a.eval y=.int k n)
 (h:ZDd op (.int k m) (.int k n)=some (.int k r)):(execOp a.eval o).run P W=.ok (.value (.int k r)) W:=by
 let C:Cx:=⟨fun _ _ _=>True,fun _ _ _ _ _ _=>True,fun _ _ _ _ _ _=>True,fun _ _ _=>True,fun _ _ _=>True⟩
 obtain⟨z,hz,hv⟩:=ZeI (P:=P) (W:=W) (t:=t) (ox:=x) (oy:=y) (C:=C) h (.int k m) (.int k n)
 have:=Jn (hv C);subst this
 simp only[execOp,hop,hx,hy];exact Y5 hz
end
theorem Zqg{n:Int}(h:0<=n)(h2:n<4611686018427387904):IntKind.i64.wrap n=n:=by
 have h1:n % 2 ^ 64=n:=Int.emod_eq_of_lt h (by omega)
 simp only[IntKind.wrap,IntKind.bits,IntKind.signed,h1]
 rw[if_neg (by simp;omega)]
section
variable {P:Program}{T:Tab}{O:Orc}{nt:Nat}{W0:World}{B0:Bse}{st st':St}{ρ:Rho}{W W':World}{e:Env}{r:Nat}
theorem CodeOk.seq{c d:Code}{F G:Run}(h:CodeOk none P O nt W0 B0 c F)(k:CodeOk none P O nt W0 B0 d G):CodeOk none P O nt W0 B0 (.seq c d) (fun e st=>(F e st).bind (JL G)):=by
 intro e st ρ W a r Q hx hr he hn hQ;simp only[oB]at hx;obtain⟨⟨xx,e1,st1⟩,hx1,hx2⟩:=hx;refine wpIn_seq (h e st ρ W a (xx,e1,st1) _ hx1 hr he hn ?_);intro a' ρ' W' g he' hs' hd'
 cases xx with
 | norm=>exact k e1 st1 ρ' W' a' r Q hx2 g.rel he' (by omega) (hQ.after g hs' hd')
 | ex id=>simp only[JL,oJ]at hx2;subst hx2;exact hQ a' ρ' W' g he' hs' hd'
 | ret=>simp only[JL,oJ]at hx2;subst hx2;exact hQ a' ρ' W' g he' hs' hd'
theorem ZZ7(hm:P.follows .mixedOrders=true)(hT:TabOk P T){hs hs':List Hint}{c:Code}{pc:PC}(hc:Jt P nt hs c=some (pc,hs'))(hg:KG P W0 B0):CodeOk none P (S T) nt W0 B0 c (exec (S T) itS pc):=by
 intro e st ρ W a r Q hx hr he hn hQ;obtain⟨n,hx⟩:=ZCK hx
 exact exec_ok (ro:=none) (ZAL hm (K:=fun _ _=>True) hT.y n) ⟨trivial,hg⟩ hm n c hs hs' pc hc e st ρ W a r Q hx hr he hn hQ
def toM(P:Program)(nt:Nat)(k:Nat):List Hint->Code->Option ((PC × Code × PC) × List Hint)
 | hs,.seq a b =>
  match Jt P nt hs a with
  | some r=>(toM P nt k r.2 b).map fun q=>((.seq r.1 q.1.1,q.1.2.1,q.1.2.2),q.2)
  | none=>(Jt P nt (hs.drop k) b).map fun r=>((.skip,a,r.1),r.2)
 | _,_=>none
def ZSL(O:Orc)(I:Run->Run)(X:Run)(pre post:PC):Run:=fun e st=>(exec O I pre e st).bind (JL fun e st=>(X e st).bind (JL (exec O I post)))
theorem Zr4(hm:P.follows .mixedOrders=true)(hT:TabOk P T){k:Nat}{X:Run}(hg:KG P W0 B0):∀(c:Code) (hs hs':List Hint) (p1 p2:PC) (x:Code),toM P nt k hs c=some ((p1,x,p2),hs')->CodeOk none P (S T) nt W0 B0 x X ->
 CodeOk none P (S T) nt W0 B0 c (ZSL (S T) itS X p1 p2):=by
 intro c
 induction c with
 | seq a b _ ihb =>
  intro hs hs' p1 p2 x hc hX
  have hc':(match Jt P nt hs a with
   | some r=>(toM P nt k r.2 b).map fun q=>(((.seq r.1 q.1.1,q.1.2.1,q.1.2.2):PC × Code × PC),q.2)
   | none=>(Jt P nt (hs.drop k) b).map fun r=>((.skip,a,r.1),r.2))=some ((p1,x,p2),hs'):=by cases hs<;>exact hc
  cases ha:Jt P nt hs a with
  | some q =>
   obtain⟨pa,h1⟩:=q;rw[ha]at hc';simp only[oM,jP]at hc';obtain⟨⟨⟨q1,q2,q3⟩,h2⟩,hy,⟨rfl,rfl,rfl⟩,rfl⟩:=hc'
   have:=(ZZ7 hm hT ha hg).seq (ihb h1 h2 q1 q3 q2 hy hX)
   intro e st ρ W a r Q hx;refine this e st ρ W a r Q ?_;simp only[ZSL,exec]at hx;rw[ZCg]at hx;exact hx
  | none =>
   rw[ha]at hc';simp only[oM,jP]at hc';obtain⟨⟨pb,h1⟩,hb,⟨rfl,rfl,rfl⟩,rfl⟩:=hc'
   have:=hX.seq (ZZ7 hm hT hb hg)
   intro e st ρ W a r Q hx;refine this e st ρ W a r Q ?_;simp only[ZSL,exec,oS,JL]at hx;exact hx
 | _=>intro hs hs' p1 p2 x hc;cases hs<;>simp[toM]at hc
def fnO(F:Run)(rs:List RV):LV->St->OS:=fun args st=>(F (QZ 0 args) st.push).bind (JA false rs)
theorem ZrM{fn:Func}{c:Code}{F:Run}{rs:List RV}(hf:P.funcs[f]?=some fn)(hb:fn.body=some c)(hF:∀W0 B0,KG P W0 B0->CodeOk none P O fn.ntmps W0 B0 c F)(hX:FrX F)
 (hrs:fn.results.toList.mapM (ZBw P)=some rs):ZLw P f (.base (fnO F rs)):=by
 refine⟨fun args=>Zg3 hX _ rs,?_⟩
 intro args st v st' h W0 B0 ρ W xs hg hr hx;have h:(F (QZ 0 args) st.push).bind (JA false rs)=some (v,st'):=h;simp only[oB]at h;obtain⟨⟨ex,e1,st1⟩,hex,hend⟩:=h;refine (callsIn_wide (n:=0)).1 (callsIn_of_wp_marks (F:=.wide) hf hb trivial ?_)
 have hsz:fn.ntmps<=(xs.toArray++Array.replicate (fn.ntmps-xs.toArray.size) Go.undef).size:=by simp;omega
 have hpl:st.push.A.length=st.A.length+1:=by simp[St.push]
 have hpush:=Sub.push st
 refine hF W B0 (hg.rel hr) (QZ 0 args) st.push ρ W { tmps:=xs.toArray++Array.replicate (fn.ntmps-xs.toArray.size) Go.undef,defers:=[] } (ex,e1,st1) _ hex (hpush.rel hr).rebase
  ((ZEk ((hx.mono (hpush.cx (Nat.le_refl _))).mono (ZJn (by omega))) _)) hsz ?_
 intro a' ρ' W' g he' _ hd'
 have key:(QT st1 e1 rs).bind (ZAJ st1)=some (v,st')->LeavesInM .wide 0 P fn a'.tmps (fun e W'=>∃x ρ',e=.returned x/\Goes W0 B0 st ρ W st' ρ' W'/\R (cx st' ρ' W' st'.A.length) v x) a'.defers .returning W':=by
  intro hend;rw[hd'];simp only[oB,ZAJ,JV,ZI9,oJ,jP]at hend;obtain⟨v0,hv,⟨v1,st2⟩,hseal,⟨A',r0⟩,hpop,rfl,rfl⟩:=hend;obtain⟨x,hx,hxv⟩:=ZIs hrs hv g.rel he'
  have hl1:st1.A.length=st.A.length+1:=by rw[g.ev.len,hpl]
  obtain⟨g2,hv2⟩:=Xf QF st1.A.length st1 v0 x v1 st2 g.rel (by omega) hxv hseal
  obtain⟨g3,hle⟩:=ZCb g2.rel (g.ev.trans g2.ev) hpop;refine⟨x,hx,x,ρ',rfl,⟨g3.rel.base (hr.below.trans g3.rel.below),g3.ev⟩,?_⟩;rw[hl1]at hv2;have hl3:(⟨A',r0.1,r0.2⟩:St).A.length=st.A.length:=g3.ev.len;rw[hl3]
  exact R.mono (show R (cx st2 ρ' W' st.A.length) v1 x from hv2) hle
 cases ex with
 | norm=>exact key (by simpa [JA] using hend)
 | ret=>exact key (by simpa [JA] using hend)
 | ex id=>simp[JA]at hend
end
end Go.QAbs
namespace Go.Q15
open Go Go.QAbs
open Go.ChangeMaps (setBlock)
variable {r':AR}{cv:AV}{a:Act}{ro:Bool}{e:Env}{f:FuncId}{it:It}{c:ItC}{A:List (Bool × List Blk)}{args caps cls:LV}{l:List Nat}{clock d i ip ix j la mx n ob ox rx tx ver wb:Nat}{x:Nd}{o:Oper}{s st:St}{t:Tr}
def ZOW:Code->List (Array Oper)
 | .seq a b=>ZOW a++ZOW b|.cond _ a b=>ZOW a++ZOW b|.block _ b=>ZOW b|.loop b=>ZOW b|.scope b=>ZOW b
 | .region _ ops _=>[ops]
 | _=>[]
noncomputable def cV:Code:=Proofs.Tryz.f13.body.getD .skip
noncomputable def oV(i j:Nat):Oper:=((ZOW cV).getD i #[]).getD j default
noncomputable def xV8:Code:=.region 8 #[oV 8 0,oV 8 1,oV 8 2,oV 8 3,oV 8 4] false
noncomputable def xVb:Code:=.block 1 (.seq (.region 7 #[oV 7 0,oV 7 1,oV 7 2] false) xV8)
noncomputable def xV:Code:=.seq (.region 5 #[oV 5 0,oV 5 1] false) (.block 0 (.loop (.seq (.region 6 #[oV 6 0,oV 6 1] false) (.seq (.cond (.tmp 26) .skip (.exit 0)) xVb))))
def h_V:List Hint:=[⟨[0,4,5],[],[],[],[],[]⟩,⟨[8,9],[],[],[],[],[]⟩,⟨[8,9,21],[],[],[],[],[]⟩,⟨[6,7],[],[],[],[],[]⟩,⟨[8,10],[],[],[],[],[]⟩,⟨[],[],[],[],[],[]⟩,⟨[],[],[],[],[],[]⟩,⟨[],[],[],[],[],[]⟩,⟨[],[],[],[],[],[]⟩,⟨[6,7],[],[],[],[],[]⟩]
def Zsl:PC:=.reg [0,4,5] [⟨(some 4),none,false,.box (.s 1)⟩,⟨(some 5),none,false,.box (.s 2)⟩,⟨(some 6),none,false,.mv (.v (.int .i64 0))⟩,⟨(some 7),none,false,.mv (.v (.int .i64 0))⟩]
def ZrN:PC:=.reg [8,9] [⟨(some 14),none,false,.mv (.s 0)⟩,⟨(some 15),none,false,.ld true 5 (.s 4)⟩,⟨(some 16),none,false,.ld true 5 (.s 5)⟩,⟨(some 17),none,false,.call .norm (.v (.func (.func ZAQ) [] [])) [(.s 14),(.s 15),(.s 16)]⟩,⟨(some 13),none,false,.mv (.s 17)⟩,⟨(some 18),none,false,.ext (.s 13) 0⟩,⟨(some 19),none,false,.ext (.s 13) 1⟩,⟨(some 8),none,false,.mv (.s 18)⟩,⟨(some 9),none,false,.mv (.s 19)⟩]
def ZrO:PC:=.reg [8,9,21] [⟨(some 20),none,false,.mv (.s 9)⟩,⟨(some 21),none,false,.bin .neq (.s 20) (.v (.int .i64 0))⟩]
def Zsm:PC:=.reg [6,7] [⟨(some 22),none,false,.mv (.s 9)⟩,⟨(some 6),none,false,.mv (.v (.int .i64 0))⟩,⟨(some 7),none,false,.mv (.s 22)⟩]
def Zsn:PC:=.reg [8,10] [⟨(some 10),none,false,.mv (.v (.int .i64 0))⟩]
def pV1:PC:=.seq Zsl (D ZrN (D (D ZrO (E 21 (D Zsm .ret) .skip)) (D Zsn .skip)))
def pV2:PC:=.seq (R [6,7] [⟨(some 33),none,false,.mv (.s 10)⟩,⟨(some 6),none,false,.mv (.s 33)⟩,⟨(some 7),none,false,.mv (.v (.int .i64 0))⟩]) .ret
def rsV:List RV:=[.s 6,.s 7]
theorem cV_m:toM Proofs.Tryz.prog 34 4 h_V cV=some ((pV1,xV,pV2),[]):=by kernel_rfl
theorem oV50:OpIs (oV 5 0) (.move (.tmp 8)) 23:=⟨by kernel_rfl,by kernel_rfl,by kernel_rfl⟩
theorem oV51:OpIs (oV 5 1) (.range 94 (.tmp 23)) 24:=⟨by kernel_rfl,by kernel_rfl,by kernel_rfl⟩
theorem oV60:OpIs (oV 6 0) (.next (.tmp 24) false) 25:=⟨by kernel_rfl,by kernel_rfl,by kernel_rfl⟩
theorem oV61:OpIs (oV 6 1) (.extract (.tmp 25) 0) 26:=⟨by kernel_rfl,by kernel_rfl,by kernel_rfl⟩
theorem oV70:OpIs (oV 7 0) (.entry (.tmp 24)) 27:=⟨by kernel_rfl,by kernel_rfl,by kernel_rfl⟩
theorem oV71:OpIs (oV 7 1) (.extract (.tmp 27) 1) 28:=⟨by kernel_rfl,by kernel_rfl,by kernel_rfl⟩
theorem oV72:OpIs (oV 7 2) (.assign (.tmp 28)) 12:=⟨by kernel_rfl,by kernel_rfl,by kernel_rfl⟩
theorem oV80:OpIs (oV 8 0) (.move (.tmp 10)) 29:=⟨by kernel_rfl,by kernel_rfl,by kernel_rfl⟩
theorem oV81:OpIs (oV 8 1) (.move (.tmp 12)) 30:=⟨by kernel_rfl,by kernel_rfl,by kernel_rfl⟩
theorem oV82:OpIs (oV 8 2) (.binOp .rem 3 (.tmp 30) (.const (.int .i64 2)) 3) 31:=⟨by kernel_rfl,by kernel_rfl,by kernel_rfl⟩
theorem oV83:OpIs (oV 8 3) (.binOp .add 3 (.tmp 29) (.tmp 31) 3) 32:=⟨by kernel_rfl,by kernel_rfl,by kernel_rfl⟩
theorem oV84:OpIs (oV 8 4) (.assign (.tmp 32)) 10:=⟨by kernel_rfl,by kernel_rfl,by kernel_rfl⟩
attribute [irreducible] oV
def Zf9:AV->Option Int
 | .int .i64 v=>if 0<=v then some (v % 2) else none
 | _=>none
def ZIf:List (AV × AV)->Option Int
 | []=>some 0
 | (_,v)::l=>(Zf9 v).bind fun x=>(ZIf l).map fun y=>x+y
def Zhz:Run:=fun e st=>match QAbs.look e 8,QAbs.look e 10 with
 | .map lv ix,.int .i64 n0=>(ZDF (st.get lv ix)).bind fun es=>if n0=0/\es.length<1000000000 then (ZIf es).map fun s=>(.norm,[(10,.int .i64 s)],st) else none
 | _,_=>none
def ZZ8(x:MapEntry):Int:=match x.val with|.int _ v=>v % 2|_=>0
theorem Zdh{C:Cx}:∀ {es:List (AV × AV)} {l:List MapEntry} {s:Int},EntR C es l->ZIf es=some s->(l.map ZZ8).sum=s/\∀x∈l,∃v:Int,0<=v/\x.val=.int .i64 v
 | [],l,s,h,hs=>by
  have:l=[]:=List.eq_nil_of_length_eq_zero h.1.symm
  subst this;simp only[ZIf,oJ]at hs
  exact⟨by simpa using hs,by simp⟩
 | (k,v)::es,[],s,h,hs=>by have:=h.1;simp at this
 | (k,v)::es,x::l,s,h,hs=>by
  simp only[ZIf,oB,oM]at hs;obtain⟨n,hn,m,hm,rfl⟩:=hs
  obtain⟨i1,i2⟩:=Zdh (C:=C) (es:=es) (l:=l) ⟨by have:=h.1;simpa using this,fun i k' v' x' a b=>h.2 (i+1) k' v' x' (by simpa using a) (by simpa using b)⟩ hm
  obtain⟨_,_,hv⟩:=h.2 0 k v x rfl rfl;unfold Zf9 at hn
  split at hn
  ·rename_i w
   split at hn
   ·rename_i hw
    simp only[oJ]at hn;have hx:=Jn hv
    refine⟨by simp[ZZ8,hx,i1,hn],fun y hy=>?_⟩
    rcases List.mem_cons.1 hy with rfl|hy
    ·exact⟨w,hw,hx⟩
    ·exact i2 y hy
   ·simp at hn
  ·simp at hn
theorem Zkf{l:List MapEntry}(h:∀x∈l,∃v:Int,0<=v/\x.val=.int .i64 v):0<=(l.map ZZ8).sum/\(l.map ZZ8).sum<=l.length:=by
 induction l with
 | nil=>simp
 | cons x l ih =>
  obtain⟨i1,i2⟩:=ih fun y hy=>h y (by simp[hy])
  obtain⟨v,hv,hx⟩:=h x (by simp)
  have:ZZ8 x=v % 2:=by simp[ZZ8,hx]
  simp only[jC,List.sum_cons,List.length_cons,this];omega
structure VI(W:World)(a:Act)(b clock:Nat)(en:Array MapEntry)(s:Int)(seen:Array Nat)(a':Act)(W':World):Prop where
 it:Itr W' b W.heap.size clock en seen
 jk:Jk W.heap.size W W'
 sz:a'.tmps.size=a.tmps.size
 df:a'.defers=a.defers
 ev:a'.eval (.tmp 24)=.pointer (some ⟨W.heap.size,0,none⟩)
 n:∃n:Int,0<=n/\a'.eval (.tmp 10)=.int .i64 n/\n+((XG en seen).map ZZ8).sum=s
theorem Zr5{T:Tab}{W0:World}{B0:Bse}:CodeOk none Proofs.Tryz.prog (S T) 34 W0 B0 xV Zhz:=by
 intro e st ρ W a r Q hx hr he hn hQ;unfold Zhz at hx
 split at hx
 case h_2=>simp at hx
 rename_i lv ix n0 hl hl10
 simp only[oB]at hx;obtain⟨es,hes,hx⟩:=hx
 split at hx
 case isFalse=>simp at hx
 rename_i hlen
 obtain⟨rfl,hlen⟩:=hlen;simp only[oM]at hx;obtain⟨s,hs,rfl⟩:=hx;have hg:=ZCd hes;have h10:=he 10;rw[hl10]at h10;have hev10:a.eval (.tmp 10)=.int .i64 0:=Jn h10;have h8:=he 8;rw[hl]at h8;generalize hm8:a.tmps.getD 8 Go.undef=m8 at h8
 have hev8:a.eval (.tmp 8)=m8:=by rw[<- hm8];rfl
 cases h8 with
 | map hp =>
 obtain⟨p1,p2,r0,rfl,p3⟩:=hp
 have:=p3 es hg;subst this
 obtain⟨en,clock,h1,h2,hf⟩:=(hr.map lv ix es hg).ent;obtain⟨hsum,hall⟩:=Zdh h2 hs
 have hsz:en.toList.length<1000000000:=by have:=h2.1;omega
 unfold xV;refine wpIn_seq (wpIn_region ?_)
 show wpOpsIn (fen none) 0 _ #[oV 5 0,oV 5 1] _ [0,1] a W
 rw[wpOpsIn_cons]
 refine YG oV50 Y (by simp) (Jj (x:=.tmp 8) (.inl oV50.op)) ?_
 rw[wpOpsIn_cons,hev8]
 have z23:23<a.tmps.size:=by omega
 refine YG oV51 Y (by simp) (ZSJ (m:=.tmp 23) (t:=94) oV51.op (show Proofs.Tryz.prog.underlying 94=some (TypeDesc.map 32 3) by kernel_rfl) (Act.put_look z23) h1) ?_
 show Code.wpIn _ _ _ _ _ _ _
 have hjk0:Jk W.heap.size W (W.alloc (.mapIter (some (ρ lv ix).b) clock #[] clock)):=by
  exact⟨rfl,rfl,rfl,by simp,fun i hi _=>Go.RowKit.Below.heap_alloc _ _ _ hi,.inl (Nat.le_refl _)⟩
 refine ZZ6 (o3:=oV 6 0) (o4:=oV 6 1) (it:=.tmp 24) (nx:=25) (ok:=26) hf oV60.op oV60.gd oV60.dst oV61.op oV61.gd oV61.dst
  (VI W a (ρ lv ix).b clock en s) (fun seen a' W' h=>⟨h.ev,by have:=h.sz;omega,by have:=h.sz;omega,h.it⟩) ?_ ?_ ?_
 ·intro seen a' W' h hl
  obtain⟨n,hn0,hn1,hn2⟩:=h.n;rw[hl]at hn2;simp only[List.map_nil,List.sum_nil,Int.add_zero]at hn2;subst hn2
  refine hQ _ ρ W' (hr.jk h.jk hr.b0) ?_ (by simpa [Act.put] using h.sz) h.df
  intro t
  by_cases ht:t=10
  ·subst ht
   have h1:((a'.put (some 25) (.tuple #[.bool false])).put (some 26) (.bool false)).eval (.tmp 10)=.int .i64 n:=by
    rw[Act.put_other (by decide),Act.put_other (by decide)];exact hn1
   have h2:((a'.put (some 25) (.tuple #[.bool false])).put (some 26) (.bool false)).tmps.getD 10 Go.undef=.int .i64 n:=h1;rw[h2];exact .int _ _
  ·have:QAbs.look [((10:Nat),(AV.int .i64 n))] t=.any:=by simp[QAbs.look,Ne.symm ht]
   show QAbs.R _ (QAbs.look [((10:Nat),(AV.int .i64 n))] t) _
   rw[this];exact .any _
 ·intro seen a' W' x w1 h hx hw hit hnew hjk
  obtain⟨n,hn0,hn1,hn2⟩:=h.n;obtain⟨v,hv0,hv⟩:=hall x (ZES hx);have hsz':=h.sz
  generalize hW1:setBlock w1 W.heap.size (.mapIter (some (ρ lv ix).b) clock (seen.push x.born) clock)=W1 at *
  have hperm:=ZLZ hf hx
  have hsum2:((XG en seen).map ZZ8).sum=v % 2+((XG en (seen.push x.born)).map ZZ8).sum:=by
   have:∀l l':List Int,l.Perm l'->l.sum=l'.sum:=fun l l' h=>by
    induction h with
    | nil=>rfl
    | cons x _ ih=>simp[ih]
    | swap x y l=>simp;omega
    | trans _ _ i1 i2=>exact i1.trans i2
   rw[this _ _ (hperm.map ZZ8)]
   simp[ZZ8,hv]
  have hrest:=Zkf (l:=XG en (seen.push x.born)) fun y hy=>hall y (ZES hy)
  have hlen2:(XG en (seen.push x.born)).length<=en.toList.length:=by
   have:(XG en (seen.push x.born))=en.toList.filter fun e=>!(seen.push x.born).contains e.born:=by simp[XG,leftOf]
   rw[this];exact List.length_filter_le ..
  have hs0:=(Zkf hall).2;rw[hsum]at hs0;unfold xVb;refine wpIn_block (wpIn_seq (wpIn_region ?_))
  show wpOpsIn (fen none) 0 _ #[oV 7 0,oV 7 1,oV 7 2] _ [0,1,2] _ W1
  generalize ha1:(a'.put (some 25) (.tuple #[.bool true,x.key,x.val])).put (some 26) (.bool true)=a1
  have s1:a1.tmps.size=a.tmps.size:=by rw[<- ha1];simpa [Act.put] using hsz'
  have d1:a1.defers=a.defers:=by rw[<- ha1];exact h.df
  have e24:a1.eval (.tmp 24)=.pointer (some ⟨W.heap.size,0,none⟩):=by rw[<- ha1,Act.put_other (by decide),Act.put_other (by decide)];exact h.ev
  have e10:a1.eval (.tmp 10)=.int .i64 n:=by rw[<- ha1,Act.put_other (by decide),Act.put_other (by decide)];exact hn1
  rw[wpOpsIn_cons]
  refine YG oV70 Y (by simp) (ZSK (it:=.tmp 24) oV70.op e24 hnew hit.map hf (ZES hx)) ?_
  rw[wpOpsIn_cons]
  refine YG oV71 Y (by simp) (ZET (t:=.tmp 27) (k:=1) (x:=x.val) oV71.op (Act.put_look (by omega)) Y) ?_
  rw[wpOpsIn_cons]
  refine YG oV72 Y (by simp) (Jj (x:=.tmp 28) (.inr oV72.op)) ?_
  rw[Act.put_look (by simp[Act.put];omega),hv]
  show Code.wpIn _ _ _ _ _ _ _
  generalize ha2:((a1.put (some 27) (.tuple #[x.key,.int .i64 v])).put (some 28) (.int .i64 v)).put (some 12) (.int .i64 v)=a2
  have s2:a2.tmps.size=a.tmps.size:=by rw[<- ha2];simpa [Act.put] using s1
  have d2:a2.defers=a.defers:=by rw[<- ha2];exact d1
  have f24:a2.eval (.tmp 24)=.pointer (some ⟨W.heap.size,0,none⟩):=by rw[<- ha2,Act.put_other (by decide),Act.put_other (by decide),Act.put_other (by decide)];exact e24
  have f10:a2.eval (.tmp 10)=.int .i64 n:=by rw[<- ha2,Act.put_other (by decide),Act.put_other (by decide),Act.put_other (by decide)];exact e10
  have f12:a2.eval (.tmp 12)=.int .i64 v:=by rw[<- ha2];exact Act.put_look (by simp[Act.put];omega)
  unfold xV8;refine wpIn_region ?_
  show wpOpsIn (fen none) 0 _ #[oV 8 0,oV 8 1,oV 8 2,oV 8 3,oV 8 4] _ [0,1,2,3,4] a2 W1
  rw[wpOpsIn_cons]
  refine YG oV80 Y (by simp) (Jj (x:=.tmp 10) (.inl oV80.op)) ?_
  rw[f10,wpOpsIn_cons]
  refine YG oV81 Y (by simp) (Jj (x:=.tmp 12) (.inl oV81.op)) ?_
  rw[Act.put_other (by decide),f12,wpOpsIn_cons]
  refine YG oV82 Y (by simp) (Zdg (x:=.tmp 30) (y:=.const (.int .i64 2)) (m:=v) (n:=2) (r:=v % 2) oV82.op (Act.put_look (by simp[Act.put];omega)) rfl
   (by show some (AV.int .i64 (v.tmod 2))=_;rw[Int.tmod_eq_emod_of_nonneg hv0])) ?_
  rw[wpOpsIn_cons]
  refine YG oV83 Y (by simp) (Zdg (x:=.tmp 29) (y:=.tmp 31) (m:=n) (n:=v % 2) (r:=n+v % 2) oV83.op (by rw[Act.put_other (by decide),Act.put_other (by decide)];exact Act.put_look (by omega)) (Act.put_look (by simp[Act.put];omega))
   (by show some (AV.int .i64 (IntKind.i64.wrap (n+v % 2)))=_;rw[Zqg (by omega) (by omega)])) ?_
  rw[wpOpsIn_cons]
  refine YG oV84 Y (by simp) (Jj (x:=.tmp 32) (.inr oV84.op)) ?_
  rw[Act.put_look (by simp[Act.put];omega)]
  refine⟨rfl,hit,h.jk.trans (Nat.le_refl _) hjk,by simpa [Act.put] using s2,d2,?_,n+v % 2,by omega,Act.put_look (by simp[Act.put];omega),by omega⟩
  rw[Act.put_other (by decide),Act.put_other (by decide),Act.put_other (by decide),Act.put_other (by decide),Act.put_other (by decide)];exact f24
 ·refine⟨⟨?_,clock,Nat.le_refl _,?_⟩,hjk0,by simp[Act.put],rfl,Act.put_look (by simp[Act.put];omega),0,by omega,?_,?_⟩
  ·exact hjk0.heap h1 Y
  ·exact World.alloc_heap_new _ _
  ·rw[Act.put_other (by decide),Act.put_other (by decide)];exact hev10
  ·rw[Zdf,hsum];omega
end Go.Q15
namespace Go.Q15
open Go Go.QAbs
variable {r':AR}{cv:AV}{a:Act}{ro:Bool}{e:Env}{f:FuncId}{it:It}{c:ItC}{A:List (Bool × List Blk)}{args caps cls:LV}{l:List Nat}{clock d i ip ix j la mx n ob ox rx tx ver wb:Nat}{x:Nd}{o:Oper}{s st:St}{t:Tr}
theorem Zqh:FrX Zhz:=FrX.of fun e st r hr=>by
 unfold Zhz at hr ⊢
 split at hr
 case h_2=>simp at hr
 rename_i lv ix n0 h1 h2
 simp only[oB]at hr;obtain⟨es,hes,hr⟩:=hr
 split at hr
 case isFalse=>simp at hr
 rename_i hc
 simp only[oM]at hr;obtain⟨s,hs,rfl⟩:=hr
 refine⟨rfl,fun M i B hh=>?_⟩
 have hg:=ZCd hes;simp only[JY hh lv ix _ hg];simp only[ZDF,oS,if_pos hc,hs,Option.map_some]
theorem Zlw{P:Program}{T:Tab}(hm:P.follows .mixedOrders=true)(hT:TabOk P T){X:Run}(hX:FrX X)(p1 p2:PC):FrX (ZSL (S T) itS X p1 p2) :=
 ZBB (ZWp hm hT p1) fun x r hr=>ZCe (ZBB hX fun x r hr=>ZCe (ZWp hm hT p2) hr) hr
noncomputable def visE:Ent:=.base (fnO (ZSL (S T3) itS Zhz pV1 pV2) rsV)
noncomputable def tv:List (FuncId × Ent):=(Jf,visE)::t3
noncomputable def TV:Tab:=ZAC tv
theorem Zqi(hT:TabOk Proofs.Tryz.prog T3)(hm:Proofs.Tryz.prog.follows .mixedOrders=true)(hf:Proofs.Tryz.prog.funcs[Jf]?=some Proofs.Tryz.f13):ZLw Proofs.Tryz.prog Jf visE:=by
 refine ZrM (c:=cV) (O:=S T3) hf (by kernel_rfl) (fun W0 B0 hg=>?_) (Zlw hm hT Zqh _ _) (by kernel_rfl)
 exact Zr4 (nt:=Proofs.Tryz.f13.ntmps) hm hT hg cV h_V [] pV1 pV2 xV cV_m Zr5
def ZC9(l:List (Nat × Int)):List (AV × AV):=l.map fun p=>(AV.int .u64 p.1,AV.int .i64 p.2)
def ZBn(h:Nat):List (Nat × Int)->List (Nat × Int)
 | []=>[(h,1)]
 | (k,n)::l=>if k=h then (k,n+1)::l else (k,n)::ZBn h l
def Xj(h:Nat):List (Nat × Int)->Int
 | []=>0
 | (k,n)::l=>if k=h then n else Xj h l
def fC(h:Nat):List (Nat × Int)->Option AV
 | []=>none
 | (k,n)::l=>if k=h then some (.int .i64 n) else fC h l
theorem Zh0(o:Nat):∀l,X8 (.int .u64 o) (ZC9 l)=some (fC o l)
 | []=>rfl
 | (k,n)::l=>by
  rw[ZC9,jC,X8]
  show (Option.bind (if IntKind.u64=IntKind.u64 then some ((o:Int) == (k:Int)) else none) fun b=>if b=true then some (some (AV.int .i64 n)) else X8 (.int .u64 o) (ZC9 l))=_
  rw[if_pos rfl,oS,Zh0 o l,fC]
  by_cases h:k=o
  ·subst h;simp
  ·rw[if_neg h,if_neg (by simp;omega)]
theorem Zny(o:Nat):∀l,(fC o l).getD (.int .i64 0)=.int .i64 (Xj o l)
 | []=>rfl
 | (k,n)::l=>by
  unfold fC Xj
  split
  ·rfl
  ·exact Zny o l
theorem ZgA(o:Nat):∀l,ZCV (.int .u64 o) (.int .i64 (Xj o l+1)) (ZC9 l)=some (ZC9 (ZBn o l))
 | []=>rfl
 | (k,n)::l=>by
  rw[ZC9,jC,ZCV]
  show (Option.bind (if IntKind.u64=IntKind.u64 then some ((o:Int) == (k:Int)) else none) fun b=>if b=true then some ((AV.int .u64 o,AV.int .i64 (Xj o ((k,n)::l)+1))::ZC9 l) else (ZCV (.int .u64 o) (.int .i64 (Xj o ((k,n)::l)+1)) (ZC9 l)).map fun r=>(AV.int .u64 k,AV.int .i64 n)::r)=_
  rw[if_pos rfl,oS]
  by_cases h:k=o
  ·subst h
   rw[if_pos (by simp),Xj,if_pos rfl,ZBn,if_pos rfl];rfl
  ·rw[if_neg (by simp;omega),Xj,if_neg h,ZgA o l,ZBn,if_neg h];rfl
theorem Zkg{lv:Nat}{l:List (Nat × Int)}(hg:st.get lv mx=some (.map (ZC9 l)))(o:Nat):lookV st 0 (.int .i64 0) false (.int .u64 o) (.map lv mx)=some (.int .i64 (Xj o l)):=by
 simp only[lookV,Zcu,hg,ZDF,oS,YK,if_true,Zh0,Option.map_some,oJ];rw[<- Zny]
 cases fC o l<;>rfl
theorem Zh1(o h:Nat):∀l,Xj o (ZBn h l)=Xj o l+if o=h then 1 else 0
 | []=>by simp only[ZBn,Xj];by_cases e:h=o<;>simp[e,Ne.symm]
 | (k,n)::l=>by
  unfold ZBn
  by_cases e:k=h
  ·subst e
   rw[if_pos rfl];unfold Xj
   by_cases e2:k=o
   ·subst e2;simp
   ·rw[if_neg e2,if_neg e2,if_neg (fun q=>e2 q.symm)];simp
  ·rw[if_neg e]
   show (if k=o then n else Xj o (ZBn h l))=(if k=o then n else Xj o l)+_
   by_cases e2:k=o
   ·subst e2;rw[if_pos rfl,if_pos rfl,if_neg e];simp
   ·rw[if_neg e2,if_neg e2];exact Zh1 o h l
def YE(c:List (Nat × Int))(l:List Nat):List (Nat × Int):=l.foldl (fun c h=>ZBn h c) c
theorem ZCT(o:Nat):∀(l:List Nat) (c:List (Nat × Int)),Xj o (YE c l)=Xj o c+l.count o
 | [],c=>by simp[YE]
 | h::l,c=>by
  show Xj o (YE (ZBn h c) l)=_
  rw[ZCT o l,Zh1,List.count_cons]
  by_cases e:o=h
  ·subst e;simp;omega
  ·rw[if_neg e,if_neg (by simpa using fun q=>e q.symm)];simp
theorem Zdi(c:List (Nat × Int))(l:List Nat)(h:Nat):YE c (l++[h])=ZBn h (YE c l):=by simp[YE]
theorem Zdj{O:Orc}{k:List Fr}{Q:J0}{L:List Blk}{keep:List Nat}{is:List QAbs.PI}{kk:Nat}{x i v:Opd}{ki w:AV}{es es':List (AV × AV)}
 (hx:Zd e x=some (.map A.length ix)) (hi:Zd e i=some ki) (hki:YK kk ki=true) (hv:Zd e v=some w) (hs:ZZ QF (A.length+1) ⟨A,false,L⟩ w=some (w,⟨A,false,L⟩)) (hb:L[ix]?=some (.map es)) (hp:ZCV ki w es=some es')
 (h:Is O is keep k Q e ⟨A,false,L.set ix (.map es')⟩):Is O (⟨none,none,false,.mupd kk x i v⟩::is) keep k Q e ⟨A,false,L⟩:=by
 have hlt:=Zt hb
 have hg:St.get ⟨A,false,L⟩ A.length ix=some (.map es):=by simp only[St.get,if_true,hb];rfl
 have hput:St.put ⟨A,false,L⟩ A.length ix (.map es')=some ⟨A,false,L.set ix (.map es')⟩:=by simp only[St.put,if_true,jB,if_false,if_pos hlt]
 refine Z3 (od:=none) (v:=.undef) (st':=⟨A,false,L.set ix (.map es')⟩) ?_ h;simp only[Zg,evalPO,ZF hx,ZF hi,ZF hv,ZG5,hki,if_true,hs,oS,ZJk,hg,ZDF,hp,hput,ZA7]
theorem leV:TLe T3 TV:=fun g y hg=>ZFl (l:=t3) (by decide +kernel) g y hg
theorem upV{r:AV × St}(h:S T3 f args st=some r):S TV f args st=some r:=Zdd leV _ _ _ _ h
theorem Zh2{X Y':Blk}{b:Nat}{N:ZJ}(hN:GoodN N)(hR:∀L,Rd ⟨A,false,L⟩ la (b+5) N){x y:Ro}(hx:RtOk N x)(hy:RtOk N y):
 S T3 ZAQ [.ptr la (b+5) 0 0 0,x.av,y.av] ⟨A,false,[X,Y']⟩=some (.tup [.map A.length 4,.int .i64 0],
  ⟨A,false,[X,Y',.arr 5 0 [x.av],.arr 5 0 [y.av],.map (ZC9 (YE (YE [] (Z1 (Zh N x))) (Z1 (Zh N y)))),.arr 5 0 [x.av],.arr 5 0 [y.av],.arr 5 0 [x.av],.arr 5 0 [y.av]]⟩):=by
 refine ZAM Y ?_
 have cx:=fun L=>up13 (Zf8 hN (hR L) hx)
 have cy:=fun L=>up13 (Zf8 hN (hR L) hy)
 have nx:=fun L=>(ZVx hN (hR L) hx)
 have ny:=fun L=>(ZVx hN (hR L) hy)
 have lx:=YD hN hx;have ly:=YD hN hy
 have lx2:(Z1 (Zh N x)).length<=1000000000:=by have:=(Jg (Zh N x)).2.2;omega
 have ly2:(Z1 (Zh N y)).length<=1000000000:=by have:=(Jg (Zh N y)).2.2;omega
 generalize Z1 (Zh N x)=vx at *
 generalize Z1 (Zh N y)=vy at *
 unfold Ro.av at *
 repeat'(first|refine ZE ?_|refine ZD ?_|refine ZG Y ?_|refine ZP Y Y Y Y ?_|refine ZB Y ?_|refine ZC ?_|refine ZAN Y Y ?_|refine Ze Y Y Y ?_|refine Qc Y Y Y Y ?_|refine ZBD Y ?_|refine ZL ?_)
 refine Qj ?_
 repeat'(first|refine ZE ?_|refine ZD ?_|refine ZG Y ?_|refine ZP Y Y Y Y ?_|refine ZB Y ?_|refine ZC ?_|refine QH Y Y ?_|refine ZKM Y Y (by first|omega|decide|(simp only[List.length_cons,List.length_nil];omega)) rfl rfl ?_|(refine cm0 Y Y Y ?_ ?_<;>intro _<;>try omega)|(refine cm0 Y Y Y ?_ ?_<;>intro _<;>try omega)|refine ZW Y ?_|refine ZH Y ?_|refine Zm Y Y (by omega) ?_|refine Ze Y Y Y ?_|refine Zr Y Y Y Y Y Y ?_|refine ZA Y Y Y (cx _) ?_|refine ZI ?_|refine ZL ?_|refine Zz ?_)
 all_goals try contradiction
 refine Qj ?_
 repeat'(first|refine ZE ?_|refine ZD ?_|refine ZG Y ?_|refine ZP Y Y Y Y ?_|refine ZB Y ?_|refine ZC ?_|refine QH Y Y ?_|refine ZKM Y Y (by first|omega|decide|(simp only[List.length_cons,List.length_nil];omega)) rfl rfl ?_|(refine cm0 Y Y Y ?_ ?_<;>intro _<;>try omega)|(refine cm0 Y Y Y ?_ ?_<;>intro _<;>try omega)|refine ZW Y ?_|refine ZH Y ?_|refine Zm Y Y (by omega) ?_|refine Ze Y Y Y ?_|refine Zr Y Y Y Y Y Y ?_|refine ZA Y Y Y (cy _) ?_|refine ZI ?_|refine ZL ?_|refine Zz ?_)
 all_goals try contradiction
 refine Qj ?_
 repeat'(first|refine ZE ?_|refine ZD ?_|refine ZG Y ?_|refine ZP Y Y Y Y ?_|refine ZB Y ?_|refine ZC ?_|refine ZAN Y Y ?_|(refine cm0 Y Y Y ?_ ?_<;>intro _<;>try omega)|refine ZH Y ?_|refine Qc Y Y Y Y ?_|refine Zv ?_|refine ZL ?_|refine Zf ?_|refine Zc Y ?_)
 all_goals try omega
 refine Qj ?_
 repeat'(first|refine ZE ?_|refine ZD ?_|refine ZG Y ?_|refine ZP Y Y Y Y ?_|refine Zs Y Y ?_|refine ZB Y ?_|refine ZC ?_|refine QJ Y ?_|refine QH Y Y ?_|refine ZKM Y Y (by first|omega|decide|(simp only[List.length_cons,List.length_nil];omega)) rfl rfl ?_|(refine cm0 Y Y Y ?_ ?_<;>intro _<;>try omega)|(refine cm0 Y Y Y ?_ ?_<;>intro _<;>try omega)|refine ZW Y ?_|refine ZH Y ?_|refine Ze Y Y Y ?_|refine Zr Y Y Y Y Y Y ?_|refine ZA Y Y Y (nx _) ?_|refine ZI ?_|refine ZL ?_)
 all_goals try contradiction
 refine Z2 (α:=Nat) (fun i=>[(0,.ptr la (b+5) 0 0 0),(8,.map A.length 4),(36,.lit [x.av,y.av]),(37,.int .i64 2),(38,.int .i64 0),(51,.lit (vx.map QB)),(52,.int .i64 vx.length),(53,.int .i64 i)]) (fun i=>⟨A,false,[X,Y',.arr 5 0 [x.av],.arr 5 0 [y.av],.map (ZC9 (YE [] (vx.take i))),.arr 5 0 [x.av],.arr 5 0 [y.av],.arr 5 0 [x.av]]⟩) (fun i=>i<=vx.length) (fun i=>vx.length-i) 0 Y Y (by omega) ?_
 rintro i hi
 unfold Ro.av
 rcases Nat.lt_or_ge i vx.length with hlt|hge
 ·obtain⟨h,hh⟩:∃k,vx[i]?=some k:=⟨vx[i]'hlt,jE _⟩
  have qk:0<=((i:Nat):Int)/\vx[((i:Nat):Int).toNat]?=some h:=⟨by omega,by rw[show ((i:Nat):Int).toNat=i by omega];exact hh⟩
  have ht:vx.take (i+1)=vx.take i++[h]:=Zb hh
  have hg0:0<=Xj h (YE [] (vx.take i))/\Xj h (YE [] (vx.take i))<=2000000000:=by
   have h1:=ZCT h (vx.take i) [];have h2:=List.count_le_length (a:=h) (l:=vx.take i)
   have h3:(vx.take i).length<=vx.length:=by rw[List.length_take];omega
   simp only[Xj]at h1;omega
  have hc:YE [] (vx.take (i+1))=ZBn h (YE [] (vx.take i)):=by rw[ht,Zdi]
  generalize YE [] (vx.take i)=c at *
  have hlk:lookV ⟨A,false,[X,Y',.arr 5 0 [x.av],.arr 5 0 [y.av],.map (ZC9 c),.arr 5 0 [x.av],.arr 5 0 [y.av],.arr 5 0 [x.av]]⟩ 0 (.int .i64 0) false (.int .u64 h) (.map A.length 4)=some (.int .i64 (Xj h c)):=Zkg (by simp only[St.get,if_true];rfl) h
  have hput:=ZgA h c
  generalize Xj h c=n at *
  repeat'(first|refine JD (f:=QB) Y Y qk (fun _=>rfl) ?_|refine Ya Y Y hlk ?_|refine Zdj Y Y Y Y Y Y hput ?_|refine ZE ?_|refine ZD ?_|refine ZG Y ?_|refine ZB Y ?_|refine ZC ?_|refine QH Y Y ?_|(refine cm0 Y Y Y ?_ ?_<;>intro _<;>try omega)|refine ZW Y ?_|refine Zm Y Y (by omega) ?_|refine ZI ?_|refine ZL ?_|refine Zz ?_|refine QD ?_)
  all_goals try omega
  refine⟨i+1,⟨rfl,?_⟩,by omega,by omega⟩
  rw[hc];rfl
 ·obtain rfl:i=vx.length:=by omega
  rw[List.take_length]
  repeat'(first|refine ZE ?_|refine ZD ?_|refine ZG Y ?_|refine ZB Y ?_|refine ZC ?_|(refine cm0 Y Y Y ?_ ?_<;>intro _<;>try omega)|refine ZH Y ?_|refine Zm Y Y (by omega) ?_|refine Zv ?_|refine Zf ?_|refine Zz ?_|refine Zc Y ?_|refine Zu ?_)
  all_goals try omega
  refine Qj ?_
  repeat'(first|refine ZE ?_|refine ZD ?_|refine ZG Y ?_|refine ZP Y Y Y Y ?_|refine Zs Y Y ?_|refine ZB Y ?_|refine ZC ?_|refine QJ Y ?_|refine QH Y Y ?_|refine ZKM Y Y (by first|omega|decide|(simp only[List.length_cons,List.length_nil];omega)) rfl rfl ?_|(refine cm0 Y Y Y ?_ ?_<;>intro _<;>try omega)|(refine cm0 Y Y Y ?_ ?_<;>intro _<;>try omega)|refine ZW Y ?_|refine ZH Y ?_|refine Ze Y Y Y ?_|refine Zr Y Y Y Y Y Y ?_|refine ZA Y Y Y (ny _) ?_|refine ZI ?_|refine ZL ?_)
  all_goals try contradiction
  refine Z2 (α:=Nat) (fun i=>[(0,.ptr la (b+5) 0 0 0),(8,.map A.length 4),(36,.lit [x.av,y.av]),(37,.int .i64 2),(38,.int .i64 1),(51,.lit (vy.map QB)),(52,.int .i64 vy.length),(53,.int .i64 i)]) (fun i=>⟨A,false,[X,Y',.arr 5 0 [x.av],.arr 5 0 [y.av],.map (ZC9 (YE (YE [] vx) (vy.take i))),.arr 5 0 [x.av],.arr 5 0 [y.av],.arr 5 0 [x.av],.arr 5 0 [y.av]]⟩) (fun i=>i<=vy.length) (fun i=>vy.length-i) 0 Y Y (by omega) ?_
  rintro i hi
  unfold Ro.av
  rcases Nat.lt_or_ge i vy.length with hlt|hge
  ·obtain⟨h,hh⟩:∃k,vy[i]?=some k:=⟨vy[i]'hlt,jE _⟩
   have qk:0<=((i:Nat):Int)/\vy[((i:Nat):Int).toNat]?=some h:=⟨by omega,by rw[show ((i:Nat):Int).toNat=i by omega];exact hh⟩
   have ht:vy.take (i+1)=vy.take i++[h]:=Zb hh
   have hg0:0<=Xj h (YE (YE [] vx) (vy.take i))/\Xj h (YE (YE [] vx) (vy.take i))<=2000000000:=by
    have h1:=ZCT h (vy.take i) (YE [] vx);have h2:=List.count_le_length (a:=h) (l:=vy.take i)
    have h3:(vy.take i).length<=vy.length:=by rw[List.length_take];omega
    have h4:=ZCT h vx [];have h5:=List.count_le_length (a:=h) (l:=vx);simp only[Xj]at h4;omega
   have hc:YE (YE [] vx) (vy.take (i+1))=ZBn h (YE (YE [] vx) (vy.take i)):=by rw[ht,Zdi]
   generalize YE (YE [] vx) (vy.take i)=c at *
   have hlk:lookV ⟨A,false,[X,Y',.arr 5 0 [x.av],.arr 5 0 [y.av],.map (ZC9 c),.arr 5 0 [x.av],.arr 5 0 [y.av],.arr 5 0 [x.av],.arr 5 0 [y.av]]⟩ 0 (.int .i64 0) false (.int .u64 h) (.map A.length 4)=some (.int .i64 (Xj h c)):=Zkg (by simp only[St.get,if_true];rfl) h
   have hput:=ZgA h c
   generalize Xj h c=n at *
   repeat'(first|refine JD (f:=QB) Y Y qk (fun _=>rfl) ?_|refine Ya Y Y hlk ?_|refine Zdj Y Y Y Y Y Y hput ?_|refine ZE ?_|refine ZD ?_|refine ZG Y ?_|refine ZB Y ?_|refine ZC ?_|refine QH Y Y ?_|(refine cm0 Y Y Y ?_ ?_<;>intro _<;>try omega)|refine ZW Y ?_|refine Zm Y Y (by omega) ?_|refine ZI ?_|refine ZL ?_|refine Zz ?_|refine QD ?_)
   all_goals try omega
   refine⟨i+1,⟨rfl,?_⟩,by omega,by omega⟩
   rw[hc];rfl
  ·obtain rfl:i=vy.length:=by omega
   rw[List.take_length]
   repeat'(first|refine ZE ?_|refine ZD ?_|refine ZG Y ?_|refine ZB Y ?_|refine ZC ?_|(refine cm0 Y Y Y ?_ ?_<;>intro _<;>try omega)|refine ZH Y ?_|refine Zm Y Y (by omega) ?_|refine Zv ?_|refine Zf ?_|refine Zz ?_|refine Zc Y ?_|refine Zu ?_)
   all_goals try omega
   refine Qj ?_
   repeat'(first|refine ZE ?_|refine ZD ?_|refine ZG Y ?_|refine ZB Y ?_|refine ZC ?_|(refine cm0 Y Y Y ?_ ?_<;>intro _<;>try omega)|refine ZH Y ?_|refine ZQ ?_|refine Zv ?_|refine ZO ?_|refine Zf ?_|refine Zc Y ?_)
   all_goals try omega
   all_goals first|rfl|exact YO (.inr Y) Y Y Y Y Y
theorem s_mr{T T0:Tab}{X:Run}{pre post:PC}{rs:List RV}{r:AV × St}(hT:T f=some (.base (fnO (ZSL (S T0) itS X pre post) rs)))
 (h:∀A,A=st.ps->Ru (S T0) pre [] (fun x e s=>(x=.ret/\JA false rs (.ret,e,s)=some r)\/(x=.norm/\∃e2 s2,X e s=some (.norm,e2,s2)/\Ru (S T0) post [] (fun x e s=>JA false rs (x,e,s)=some r) e2 s2)) (QZ 0 args) ⟨A,false,[]⟩):S T f args st=some r:=by
 refine ZWM (o:=fnO (ZSL (S T0) itS X pre post) rs) hT ?_;obtain⟨x,e1,s1,h1,h2⟩:=(h _ rfl).h;unfold fnO ZSL
 have:st.push=⟨st.ps,false,[]⟩:=rfl
 rw[this,h1,oS]
 rcases h2 with⟨rfl,h3⟩|⟨rfl,e2,s2,h3,⟨x,e3,s3,h5,h6⟩⟩
 ·simp only[JL,oS];exact h3
 ·simp only[JL,h3,oS,h5];exact h6
theorem Znz(h:Nat):∀c:List (Nat × Int),(∀p∈c,0<=p.2)->(∀p∈ZBn h c,0<=p.2)/\(ZBn h c).length<=c.length+1
 | [],_=>by simp[ZBn]
 | (k,n)::c,hc=>by
  unfold ZBn
  split
  ·refine⟨fun p hp=>?_,by simp⟩
   rcases List.mem_cons.1 hp with rfl|hp
   ·have:=hc (k,n) (by simp);simp only at *;omega
   ·exact hc p (by simp[hp])
  ·obtain⟨i1,i2⟩:=Znz h c fun p hp=>hc p (by simp[hp])
   refine⟨fun p hp=>?_,by simp only[List.length_cons];omega⟩
   rcases List.mem_cons.1 hp with rfl|hp
   ·exact hc _ (by simp)
   ·exact i1 p hp
theorem ZOX:∀(l:List Nat) (c:List (Nat × Int)),(∀p∈c,0<=p.2)->(∀p∈YE c l,0<=p.2)/\(YE c l).length<=c.length+l.length
 | [],c,hc=>⟨hc,by simp[YE]⟩
 | h::l,c,hc=>by
  obtain⟨i1,i2⟩:=Znz h c hc;obtain⟨j1,j2⟩:=ZOX l (ZBn h c) i1
  exact⟨j1,by show (YE (ZBn h c) l).length<=_;simp only[List.length_cons];omega⟩
def Zn0(c:List (Nat × Int)):Int:=(c.map fun p=>p.2 % 2).sum
theorem Zdk:∀c:List (Nat × Int),(∀p∈c,0<=p.2)->ZIf (ZC9 c)=some (Zn0 c)
 | [],_=>rfl
 | (k,n)::c,hc=>by
  have h0:=hc (k,n) (by simp)
  simp only at h0
  show (Zf9 (.int .i64 n)).bind (fun x=>(ZIf (ZC9 c)).map fun y=>x+y)=_
  rw[Zdk c fun p hp=>hc p (by simp[hp]),Zf9,if_pos h0]
  rfl
theorem Zqj{lv:Nat}{es:List (AV × AV)}{s:Int}(h8:QAbs.look e 8=.map lv ix)(h10:QAbs.look e 10=.int .i64 0)(hg:st.get lv ix=some (.map es))(hl:es.length<1000000000)(hs:ZIf es=some s):Zhz e st=some (.norm,[(10,.int .i64 s)],st):=by
 unfold Zhz;simp only[h8,h10,hg,ZDF,oS,hs,Option.map_some];rw[if_pos ⟨trivial,hl⟩]
def Zn1(N:ZJ)(x y:Ro):Int:=Zn0 (YE (YE [] (Z1 (Zh N x))) (Z1 (Zh N y)))
theorem Zdl{b:Nat}{N:ZJ}(hN:GoodN N)(hR:Rd st la (b+5) N){x y:Ro}(hx:RtOk N x)(hy:RtOk N y):
 S TV Jf [.ptr la (b+5) 0 0 0,x.av,y.av] st=some (.tup [.int .i64 (Zn1 N x y),.int .i64 0],st):=by
 refine s_mr (X:=Zhz) (pre:=pV1) (post:=pV2) (rs:=rsV) Y (fun A hA=>?_)
 have hC:=Zh2 (A:=A) (X:=.arr 5 0 [x.av]) (Y':=.arr 5 0 [y.av]) hN (fun L=>hR.push hA (ro:=false) (L:=L)) hx hy
 have lx:=(Jg (Zh N x)).2.2;have ly:=(Jg (Zh N y)).2.2;have mx:=YD hN hx;have my:=YD hN hy
 have k1:=ZOX (Z1 (Zh N x)) [] (by simp)
 have k2:=ZOX (Z1 (Zh N y)) _ k1.1;have hs:=Zdk _ k2.1
 have hlen:(ZC9 (YE (YE [] (Z1 (Zh N x))) (Z1 (Zh N y)))).length<1000000000:=by
  have:=k1.2
  have:=k2.2
  simp only[ZC9,List.length_map,List.length_nil]at *
  omega
 unfold Zn1
 generalize YE (YE [] (Z1 (Zh N x))) (Z1 (Zh N y))=c at *
 unfold Ro.av at *
 repeat'(first|refine ZE ?_|refine ZD ?_|refine ZG Y ?_|refine ZP Y Y Y Y ?_|refine Zs Y Y ?_|refine ZB Y ?_|refine ZC ?_|(refine cm0 Y Y Y ?_ ?_<;>intro _<;>try omega)|refine ZH Y ?_|refine Ze Y Y Y ?_|refine ZA Y Y Y (hC) ?_|refine ZI ?_|refine ZO ?_)
 all_goals try contradiction
 refine .inr ⟨rfl,_,_,Zqj Y Y (by simp only[St.get,if_true];rfl) hlen hs,?_⟩
 repeat'(first|refine ZE ?_|refine ZD ?_|refine ZG Y ?_|refine ZB Y ?_|refine ZC ?_|refine ZQ ?_|refine ZO ?_)
 all_goals refine Zi hA (by simp) Y Y Y Y ?_
 all_goals rfl
end Go.Q15
namespace Go.Q15
open Go Go.QAbs
open Go.ChangeMaps (setBlock)
variable {r':AR}{cv:AV}{a:Act}{ro:Bool}{e:Env}{f:FuncId}{it:It}{c:ItC}{A:List (Bool × List Blk)}{args caps cls:LV}{l:List Nat}{clock d i ip ix j la mx n ob ox rx tx ver wb:Nat}{x:Nd}{o:Oper}{s st:St}{t:Tr}
def hAV(h:H64):AV:=.int .u64 (h.val:Int)
def Zh3(p:Int->Bool)(x:MapEntry):Option H64:=match x.key,x.val with
 | .int _ h,.int _ n=>if p n=true then some ⟨h.toNat % 18446744073709551616,Nat.mod_lt _ (by decide)⟩ else none
 | _,_=>none
def ZgB(p:Int->Bool):List (AV × AV)->Option (List H64)
 | []=>some []
 | (.int .u64 h,.int .i64 n)::l=>if hh:0<=h/\h<18446744073709551616 then (ZgB p l).map fun r=>if p n=true then ⟨h.toNat,by omega⟩::r else r else none
 | _::_=>none
def EntH(x:MapEntry):Prop:=∃(h:H64) (n:Int),x.key=encH h/\x.val=.int .i64 n
theorem Zkh{p:Int->Bool}{x:MapEntry}{h:H64}{n:Int}(hk:x.key=encH h)(hv:x.val=.int .i64 n):Zh3 p x=if p n=true then some h else none:=by
 unfold Zh3;rw[hk,hv]
 show (if p n=true then some (⟨((h.val:Nat):Int).toNat % 18446744073709551616,_⟩:H64) else none)=_
 have:(⟨((h.val:Nat):Int).toNat % 18446744073709551616,Nat.mod_lt _ (by decide)⟩:H64)=h:=by
  apply Fin.ext
  have:=h.isLt
  show ((h.val:Nat):Int).toNat % 18446744073709551616=h.val
  rw[Int.toNat_natCast];omega
 rw[this]
theorem Zki{C:Cx}{p:Int->Bool}:∀ {es:List (AV × AV)} {l:List MapEntry} {ks:List H64},EntR C es l->ZgB p es=some ks->l.filterMap (Zh3 p)=ks/\∀x∈l,EntH x
 | [],l,ks,h,hs=>by
  have:l=[]:=List.eq_nil_of_length_eq_zero h.1.symm
  subst this;simp only[ZgB,oJ]at hs
  exact⟨by simpa using hs,by simp⟩
 | (k,v)::es,[],ks,h,hs=>by have:=h.1;simp at this
 | (k,v)::es,x::l,ks,h,hs=>by
  unfold ZgB at hs
  split at hs
  ·rename_i e;simp at e
  ·rename_i hh n l' e
   simp only[List.cons.injEq,jP]at e;obtain⟨⟨rfl,rfl⟩,rfl⟩:=e
   split at hs
   ·rename_i hb
    simp only[oM]at hs;obtain⟨r,hr,hs⟩:=hs;obtain⟨i1,i2⟩:=Zki (C:=C) (es:=es) (l:=l) h.tail hr;obtain⟨_,hk,hv⟩:=h.2 0 _ _ x rfl rfl;have hk:=Jn hk;have hv:=Jn hv
    have hk2:x.key=encH ⟨hh.toNat,by omega⟩:=by rw[hk];show Value.int .u64 hh=Value.int .u64 ((hh.toNat:Nat):Int);rw[Int.toNat_of_nonneg hb.1]
    refine⟨?_,fun y hy=>?_⟩
    ·rw[List.filterMap_cons,Zkh hk2 hv,i1]
     rw[<- hs]
     by_cases hp:p n=true
     ·rw[if_pos hp,if_pos hp]
     ·rw[if_neg hp,if_neg hp]
    ·rcases List.mem_cons.1 hy with rfl|hy
     ·exact⟨_,_,hk2,hv⟩
     ·exact i2 y hy
   ·simp at hs
  ·simp at hs
theorem ZOY{r:H64->H64->Prop}(anti:∀a b,r a b->r b a->a=b):∀ {l m:List H64},l.Perm m->l.Pairwise r->m.Pairwise r->l=m
 | [],m,h,_,_=>h.nil_eq
 | a::l,[],h,_,_=>by have:=h.length_eq;simp at this
 | a::l,b::m,h,h1,h2=>by
  rw[List.pairwise_cons]at h1 h2
  have e:a=b:=by
   rcases List.mem_cons.1 (h.mem_iff.1 List.mem_cons_self) with e|ha
   ·exact e
   ·rcases List.mem_cons.1 (h.mem_iff.2 List.mem_cons_self) with e|hb
    ·exact e.symm
    ·exact anti a b (h1.1 b hb) (h2.1 a ha)
  subst e;rw[ZOY anti (List.Perm.cons_inv h) h1.2 h2.2]
theorem ZVy{x y:H64}:leH x y=true↔¬ (y.val % 65536<x.val % 65536\/y.val % 65536=x.val % 65536/\y.val<x.val):=by
 unfold leH;rw[ltOfH,<- ltB_no];simp
theorem ZIg(l:List H64):(srtH l).Pairwise fun a b=>leH a b=true:=by
 unfold srtH
 refine List.pairwise_mergeSort (fun a b c h1 h2=>?_) (fun a b=>?_) l
 ·rw[ZVy]at *;omega
 ·simp only[Bool.or_eq_true,ZVy];omega
theorem Zdm{l m:List H64}(h:l.Perm m):srtH l=srtH m :=
 ZOY (r:=fun a b=>leH a b=true) (fun a b h1 h2=>by rw[ZVy]at *;apply Fin.ext;omega) (((List.mergeSort_perm l leH).trans h).trans (List.mergeSort_perm m leH).symm) (ZIg l) (ZIg m)
theorem Zn2(l:List H64):(srtH l).length=l.length:=List.length_mergeSort ..
section
variable {P:Program}{T:Tab}{O:Orc}{nt:Nat}{W0:World}{B0:Bse}{st st':St}{ρ:Rho}{W W':World}{e:Env}{a:Act}{r:Nat}
theorem Zn3{op:BinOp}{t yt:TypeId}{x y:Operand}{k:IntKind}{m n:Int}{b:Bool}(hop:o.op=.binOp op t x y yt)(hx:a.eval x=.int k m)(hy:a.eval y=.int k n)
 (h:ZDd op (.int k m) (.int k n)=some (.bool b)):(execOp a.eval o).run P W=.ok (.value (.bool b)) W:=by
 let C:Cx:=⟨fun _ _ _=>True,fun _ _ _ _ _ _=>True,fun _ _ _ _ _ _=>True,fun _ _ _=>True,fun _ _ _=>True⟩
 obtain⟨z,hz,hv⟩:=ZeI (P:=P) (W:=W) (t:=t) (ox:=x) (oy:=y) (C:=C) h (.int k m) (.int k n)
 have:=YI (hv C);subst this
 simp only[execOp,hop,hx,hy];exact Y5 hz
theorem Zlx{s x:Operand}{t:TypeId}{v v':Value}{ad:Addr}{m c:Nat}(ho:o.op=.call { callee:=.builtin .append,args:=#[s,x],argTypes:=#[t,t] })(hs:a.eval s=v)(hx:a.eval x=.slice (some ad) m c)
 (hr:(Builtin.append_ #[t,t] o.type #[v,.slice (some ad) m c]).run P W=.ok v' W'):(execOp a.eval o).run P W=.ok (.value v') W':=by
 unfold execOp;simp only[ho,resolve,invoke,builtin,Sem.run_bind,Sem.run_pure,Result.andThen_ok,List.map_toArray,jC,List.map_nil,hs,hx,hr]
theorem Zly{ops:Array Oper}{c:Call}{f:Operand}{g:FuncId}{Q:Exit->Act->World->Prop}{K:Act->World->Prop}(ho:ops[i]?=some o)(hg:o.guard=none)(hop:o.op=.call c)(hf:c.callee=.value f)(hv:a.eval f=.func (.func g) #[] #[])
 (hrun:∀(zs:Array Value) (W:World),(callFunc g zs).run P W=.ok (.enter g zs) W) (hC:Calls P g (c.args.toList.map a.eval).toArray W fun e W'=>∃x,e=.returned x/\K (a.put o.dst x) W'):wpOpIn (fen none) 0 P ops Q i K a W:=by
 unfold wpOpIn
 have hw:Region.wanted o (yielded ops a.tmps)=true:=by unfold Region.wanted;rw[hg]
 have hnd:∀c,o.op≠.defer c:=fun c q=>by rw[hop]at q;simp at q
 simp only[ho,hw,if_true]
 refine⟨fun _ _=>trivial,?_⟩
 rw[Oper.semAt_eq _ _ _ hnd,Zgu (xs:=[]) (ys:=[]) hop hf hv hrun]
 refine⟨fun h=>absurd h (by simp[fen,Fence.wide]),?_⟩
 refine (callsIn_wide (n:=0)).2 ?_;simp only[lE,lN];refine hC.mono ?_
 rintro e' W' ⟨x,rfl,hk⟩
 exact hk
theorem Zjd{W W':World}{r:Nat}{e:TypeId}{sz:Nat}{v:Value}{xs:List Value}(hj:Jk r W W')(h:W.ownsRow (r+1) e sz v n xs):W'.ownsRow (r+1) e sz v n xs:=by
 refine⟨h.1,?_⟩
 rcases h.2 with q|⟨g,cap,cur,q1,q2,q3,q4,q5,q6,q7⟩
 ·exact .inl q
 ·exact .inr ⟨g,cap,cur,q1,q2,hj.heap q3 Y,q4,q5,q6,q7⟩
def toP(P:Program)(nt:Nat):Nat->List Hint->Code->Option ((PC × Code) × List Hint)
 | 0,hs,c=>some ((.skip,c),hs)
 | k+1,hs,.seq a b=>(Jt P nt hs a).bind fun r=>(toP P nt k r.2 b).map fun q=>((.seq r.1 q.1.1,q.1.2),q.2)
 | _,_,_=>none
def ZSM(O:Orc)(I:Run->Run)(X:Run)(pre:PC):Run:=fun e st=>(exec O I pre e st).bind (JL X)
theorem Zr6(hm:P.follows .mixedOrders=true)(hT:TabOk P T){X:Run}(hg:KG P W0 B0):∀(k:Nat) (c:Code) (hs hs':List Hint) (p1:PC) (x:Code),toP P nt k hs c=some ((p1,x),hs')->CodeOk none P (S T) nt W0 B0 x X ->
 CodeOk none P (S T) nt W0 B0 c (ZSM (S T) itS X p1):=by
 intro k
 induction k with
 | zero =>
  intro c hs hs' p1 x hc hX;simp only[toP,oJ,jP]at hc;obtain⟨⟨rfl,rfl⟩,rfl⟩:=hc;intro e st ρ W a r Q hx;refine hX e st ρ W a r Q ?_
  simpa only [ZSM,exec,oS,JL] using hx
 | succ k ih =>
  intro c hs hs' p1 x hc hX
  cases c with
  | seq a b =>
   simp only[toP,oB,oM,jP]at hc;obtain⟨⟨pa,h1⟩,ha,⟨⟨q1,q2⟩,h2⟩,hy,⟨rfl,rfl⟩,rfl⟩:=hc
   have:=(ZZ7 hm hT ha hg).seq (ih b h1 h2 q1 q2 hy hX)
   intro e st ρ W a r Q hx;refine this e st ρ W a r Q ?_;simp only[ZSM,exec]at hx;rw[ZCg]at hx;exact hx
  | _=>simp[toP]at hc
theorem Zlz(hm:P.follows .mixedOrders=true)(hT:TabOk P T){X:Run}(hX:FrX X)(p1:PC):FrX (ZSM (S T) itS X p1) :=
 ZBB (ZWp hm hT p1) fun x r hr=>ZCe hX hr
end
theorem Zqk(n:Int)(W:World):(Instr.buildSlice 37 1 #[(0,.int .u64 n)]).run Proofs.Tryz.prog W=.ok (.slice (some ⟨W.heap.size,0,none⟩) 1 1) (W.alloc (.cells #[.int .u64 n] 32)):=by
 have ht:Proofs.Tryz.prog.underlying 37=some (.slice 32):=by kernel_rfl
 have hs:=Proofs.Tryz.sizeOf32;have hz:=Proofs.Tryz.zeroValue32;simp only[Instr.buildSlice,Sem.run_bind,Zy ht,Result.andThen_ok,hs]
 rw[if_neg (by decide),if_neg (by decide)]
 simp only[Sem.run_bind,Sem.run_pure,Result.andThen_ok,hz]
 have hf:Instr.fill (fun i=>some (i*1,1)) (Array.map (fun x=>(Value.int IntKind.u64 0).cells[x % (Value.int IntKind.u64 0).cells.size]!) (Array.range (1*1))) [(0,Value.int IntKind.u64 n)]=some #[.int .u64 n]:=by
  first|rfl|kernel_rfl|simp[Instr.fill,Value.cells]
 rw[hf]
 simp[newRow]
theorem Zl0{W:World}{x:Operand}{h:H64}(hop:o.op=.buildSlice 37 1 #[(0,x)])(hx:a.eval x=encH h):
 (execOp a.eval o).run Proofs.Tryz.prog W=.ok (.value (.slice (some ⟨W.heap.size,0,none⟩) 1 1)) (W.alloc (.cells #[encH h] 32)):=by
 simp only[execOp,hop,List.map_toArray,jC,List.map_nil,hx];exact Y5 (Zqk _ W)
noncomputable def cSh:Code:=Proofs.Tryz.f12.body.getD .skip
noncomputable def oSh(i j:Nat):Oper:=((ZOW cSh).getD i #[]).getD j default
noncomputable def xShB:Code:=.block 1 (.seq (.region 7 #[oSh 7 0,oSh 7 1,oSh 7 2,oSh 7 3,oSh 7 4] false) (.seq (.region 8 #[oSh 8 0,oSh 8 1] false) (.cond (.tmp 31) (.region 9 #[oSh 9 0,oSh 9 1,oSh 9 2,oSh 9 3,oSh 9 4] false) .skip)))
noncomputable def xSh:Code:=.seq (.region 4 #[oSh 4 0] false) (.seq (.seq (.region 5 #[oSh 5 0,oSh 5 1] false) (.block 0 (.loop (.seq (.region 6 #[oSh 6 0,oSh 6 1] false) (.seq (.cond (.tmp 26) .skip (.exit 0)) xShB))))) (.seq (.region 10 #[oSh 10 0,oSh 10 1,oSh 10 2,oSh 10 3] false) .ret))
theorem oSh_4_0:OpIs (oSh 4 0) (.assign (.const (.slice none 0 0))) 10:=⟨by kernel_rfl,by kernel_rfl,by kernel_rfl⟩
theorem oSh_5_0:OpIs (oSh 5 0) (.move (.tmp 8)) 23:=⟨by kernel_rfl,by kernel_rfl,by kernel_rfl⟩
theorem oSh_5_1:OpIs (oSh 5 1) (.range 94 (.tmp 23)) 24:=⟨by kernel_rfl,by kernel_rfl,by kernel_rfl⟩
theorem oSh_6_0:OpIs (oSh 6 0) (.next (.tmp 24) false) 25:=⟨by kernel_rfl,by kernel_rfl,by kernel_rfl⟩
theorem oSh_6_1:OpIs (oSh 6 1) (.extract (.tmp 25) 0) 26:=⟨by kernel_rfl,by kernel_rfl,by kernel_rfl⟩
theorem oSh_7_0:OpIs (oSh 7 0) (.entry (.tmp 24)) 27:=⟨by kernel_rfl,by kernel_rfl,by kernel_rfl⟩
theorem oSh_7_1:OpIs (oSh 7 1) (.extract (.tmp 27) 0) 28:=⟨by kernel_rfl,by kernel_rfl,by kernel_rfl⟩
theorem oSh_7_2:OpIs (oSh 7 2) (.extract (.tmp 27) 1) 29:=⟨by kernel_rfl,by kernel_rfl,by kernel_rfl⟩
theorem oSh_7_3:OpIs (oSh 7 3) (.assign (.tmp 28)) 11:=⟨by kernel_rfl,by kernel_rfl,by kernel_rfl⟩
theorem oSh_7_4:OpIs (oSh 7 4) (.assign (.tmp 29)) 12:=⟨by kernel_rfl,by kernel_rfl,by kernel_rfl⟩
theorem oSh_8_0:OpIs (oSh 8 0) (.move (.tmp 12)) 30:=⟨by kernel_rfl,by kernel_rfl,by kernel_rfl⟩
theorem oSh_8_1:OpIs (oSh 8 1) (.binOp .eql 3 (.tmp 30) (.const (.int .i64 2)) 3) 31:=⟨by kernel_rfl,by kernel_rfl,by kernel_rfl⟩
theorem oSh_9_0:OpIs (oSh 9 0) (.move (.tmp 10)) 32:=⟨by kernel_rfl,by kernel_rfl,by kernel_rfl⟩
theorem oSh_9_1:OpIs (oSh 9 1) (.move (.tmp 11)) 33:=⟨by kernel_rfl,by kernel_rfl,by kernel_rfl⟩
theorem oSh_9_2:OpIs (oSh 9 2) (.buildSlice 37 1 #[(0,.tmp 33)]) 34:=⟨by kernel_rfl,by kernel_rfl,by kernel_rfl⟩
theorem oSh_9_3:OpIs (oSh 9 3) (.call { callee:=.builtin .append,args:=#[.tmp 32,.tmp 34],argTypes:=#[37,37] }) 35:=⟨by kernel_rfl,by kernel_rfl,by kernel_rfl⟩
theorem oSh_9_4:OpIs (oSh 9 4) (.assign (.tmp 35)) 10:=⟨by kernel_rfl,by kernel_rfl,by kernel_rfl⟩
theorem oSh_10_0:OpIs (oSh 10 0) (.move (.tmp 10)) 36:=⟨by kernel_rfl,by kernel_rfl,by kernel_rfl⟩
theorem oSh_10_1:OpIs (oSh 10 1) (.call { callee:=.value (.func 45),args:=#[.tmp 36],argTypes:=#[37] }) 37:=⟨by kernel_rfl,by kernel_rfl,by kernel_rfl⟩
theorem oSh_10_2:OpIs (oSh 10 2) (.assign (.tmp 37)) 6:=⟨by kernel_rfl,by kernel_rfl,by kernel_rfl⟩
theorem oSh_10_3:OpIs (oSh 10 3) (.assign (.const (.int .i64 0))) 7:=⟨by kernel_rfl,by kernel_rfl,by kernel_rfl⟩
attribute [irreducible] oSh
def Zh4:Run:=fun e st=>match QAbs.look e 8 with
 | .map lv ix=>(ZDF (st.get lv ix)).bind fun es=>(ZgB (fun n=>decide (n=2)) es).bind fun ks=>if ks.Nodup/\es.length<1000000000 then some (.ret,[(6,.lit ((srtH ks).map hAV)),(7,.int .i64 0)],st) else none
 | _=>none
structure ISh(p:Int->Bool)(W:World)(a:Act)(b clock:Nat)(en:Array MapEntry)(seen:Array Nat)(a':Act)(W':World):Prop where
 it:Itr W' b W.heap.size clock en seen
 jk:Jk W.heap.size W W'
 sz:a'.tmps.size=a.tmps.size
 df:a'.defers=a.defers
 ev:a'.eval (.tmp 24)=.pointer (some ⟨W.heap.size,0,none⟩)
 big:W.heap.size+1<=W'.heap.size
 out:∃ks:List H64,W'.ownsRow (W.heap.size+1) 32 1 (a'.eval (.tmp 10)) ks.length (ks.map encH)/\(a'.eval (.tmp 10)=.slice none 0 0↔ks=[])/\(ks++(XG en seen).filterMap (Zh3 p)).Perm (en.toList.filterMap (Zh3 p))
theorem Zr7{T:Tab}{W0:World}{B0:Bse}:CodeOk none Proofs.Tryz.prog (S T) 38 W0 B0 xSh Zh4:=by
 intro e st ρ W a0 r Q hx hr he hn hQ;unfold Zh4 at hx
 split at hx
 case h_2=>simp at hx
 rename_i lv ix hl 
 simp only[oB]at hx;obtain⟨es,hes,ks0,hks,hx⟩:=hx
 split at hx
 case isFalse=>simp at hx
 rename_i hcnd
 obtain⟨hnd,hlen⟩:=hcnd;simp only[oJ]at hx;subst hx;have hg:=ZCd hes;have hm:=he 8;rw[hl]at hm;generalize hm8:a0.tmps.getD 8 Go.undef=m8 at hm
 have hevm:a0.eval (.tmp 8)=m8:=by rw[<- hm8];rfl
 cases hm with
 | map hp =>
 obtain⟨p1,p2,r0,rfl,p3⟩:=hp
 have:=p3 es hg;subst this
 obtain⟨en,clock,h1,h2,hf⟩:=(hr.map lv ix es hg).ent;obtain⟨hsel,hall⟩:=Zki h2 hks
 have hsz:en.toList.length<1000000000:=by have:=h2.1;omega
 unfold xSh;refine wpIn_seq (wpIn_region ?_)
 show wpOpsIn (fen none) 0 _ #[oSh 4 0] _ [0] a0 W
 rw[wpOpsIn_cons]
 refine YG oSh_4_0 Y (by simp) (Jj (x:=.const (.slice none 0 0)) (.inr oSh_4_0.op)) ?_
 show Code.wpIn _ _ _ _ _ _ _
 generalize ha:a0.put (some 10) (a0.eval (.const (.slice none 0 0)))=a
 have sza:a.tmps.size=a0.tmps.size:=by rw[<- ha];simp[Act.put]
 have dfa:a.defers=a0.defers:=by rw[<- ha];rfl
 have hev8:a.eval (.tmp 8)=.map (some (ρ lv ix).b):=by rw[<- ha,Act.put_other (by decide)];exact hevm
 have hev10:a.eval (.tmp 10)=.slice none 0 0:=by rw[<- ha];exact Act.put_look (by omega)
 clear ha;refine wpIn_seq (wpIn_seq (wpIn_region ?_))
 show wpOpsIn (fen none) 0 _ #[oSh 5 0,oSh 5 1] _ [0,1] a W
 rw[wpOpsIn_cons]
 refine YG oSh_5_0 Y (by simp) (Jj (x:=.tmp 8) (.inl oSh_5_0.op)) ?_
 rw[wpOpsIn_cons,hev8]
 refine YG oSh_5_1 Y (by simp) (ZSJ (m:=.tmp 23) (t:=94) oSh_5_1.op (show Proofs.Tryz.prog.underlying 94=some (TypeDesc.map 32 3) by kernel_rfl) (Act.put_look (by omega)) h1) ?_
 show Code.wpIn _ _ _ _ _ _ _
 have hjk0:Jk W.heap.size W (W.alloc (.mapIter (some (ρ lv ix).b) clock #[] clock)):=by
  exact⟨rfl,rfl,rfl,by simp,fun i hi _=>Go.RowKit.Below.heap_alloc _ _ _ hi,.inl (Nat.le_refl _)⟩
 refine ZZ6 (o3:=oSh 6 0) (o4:=oSh 6 1) (it:=.tmp 24) (nx:=25) (ok:=26) hf oSh_6_0.op oSh_6_0.gd oSh_6_0.dst oSh_6_1.op oSh_6_1.gd oSh_6_1.dst
  (ISh (fun n=>decide (n=2)) W a (ρ lv ix).b clock en) (fun seen a' W' h=>⟨h.ev,by have:=h.sz;omega,by have:=h.sz;omega,h.it⟩) ?_ ?_ ?_
 ·-- behind the loop
  intro seen a' W' h hl0;obtain⟨ks,hown,hnil,hperm⟩:=h.out;rw[hl0,List.filterMap_nil,lN,hsel]at hperm;have hsz':=h.sz
  show Code.wpIn _ _ _ _ _ _ _
  generalize ha1:(a'.put (some 25) (.tuple #[.bool false])).put (some 26) (.bool false)=a1
  have s1:a1.tmps.size=a0.tmps.size:=by rw[<- ha1];simpa [Act.put,sza] using hsz'
  have d1:a1.defers=a0.defers:=by rw[<- ha1];exact h.df.trans dfa
  have e10:a1.eval (.tmp 10)=a'.eval (.tmp 10):=by rw[<- ha1,Act.put_other (by decide),Act.put_other (by decide)]
  generalize a'.eval (.tmp 10)=vo at *
  refine wpIn_seq (wpIn_region ?_)
  show wpOpsIn (fen none) 0 _ #[oSh 10 0,oSh 10 1,oSh 10 2,oSh 10 3] _ [0,1,2,3] a1 W'
  rw[wpOpsIn_cons]
  refine YG oSh_10_0 Y (by simp) (Jj (x:=.tmp 10) (.inl oSh_10_0.op)) ?_
  rw[wpOpsIn_cons,e10]
  have hz:(a1.put (some 36) vo).eval (.tmp 36)=vo:=Act.put_look (by omega)
  have hc:Go.Calls Proofs.Tryz.prog 45 #[vo] W' fun e W2=>∃x,e=.returned x/\(Go.RowKit.Below W'.heap.size W' W2/\QAbs.R (cx st ρ W2 st.A.length) (.lit ((srtH ks0).map hAV)) x):=by
   have hsame:srtH ks=srtH ks0:=Zdm hperm;have hlen0:=hperm.length_eq
   have hks0:ks0.length<=1000000000:=by
    have h4:=List.length_filterMap_le (Zh3 (fun n=>decide (n=2))) en.toList
    rw[hsel]at h4;omega
   rcases hown.2 with⟨rfl,hz0⟩|⟨g,cap,cur,rfl,hgb,hgc,hnc,hcm,hcs,htk⟩
   ·have:ks0=[]:=List.eq_nil_of_length_eq_zero (by omega)
    subst this;refine (hSort_nil W').mono ?_
    rintro e' W2 ⟨rfl,rfl⟩
    exact⟨_,rfl,Go.RowKit.Below.refl _ _,by rw[show srtH []=[] by simp[srtH]];exact .lit0 _ _⟩
   ·have hpos : 0 < ks.length := by
     rcases Nat.eq_zero_or_pos ks.length with h0|h0
     ·have:=hnil.2 (List.eq_nil_of_length_eq_zero h0)
      simp at this
     ·exact h0
    refine (hSort ⟨g,0,none⟩ cap ks (hperm.nodup_iff.2 hnd) hpos (by omega) W' (fun j u hj=>hown.cells Y j u hj)).mono ?_
    rintro e' W2 ⟨g2,cap2,rfl,hg2,hc1,hc2,hbel,hH⟩
    refine⟨_,rfl,hbel,?_⟩;rw[<- hsame]
    have hes:((srtH ks).map hAV).length=ks.length:=by rw[List.length_map,Zn2]
    have:=ZWP (C:=cx st ρ W2 st.A.length) (es:=(srtH ks).map hAV) (xs:=(srtH ks).map encH) (b:=g2) (o:=0) (w:=1) (c:=cap2) (a:=some ⟨g2,0,none⟩) ⟨by simp,fun i v x hv hx=>?_⟩ (fun i x hx=>?_) (by rw[hes];exact hc1) (fun _=>rfl)
    ·rw[hes]at this;exact this
    ·rw[jG,oM]at hv hx
     obtain⟨u,hu,rfl⟩:=hv;obtain⟨u2,hu2,rfl⟩:=hx;rw[hu]at hu2
     have:=Option.some.inj hu2
     subst this;exact .int _ _
    ·rw[jG,oM]at hx
     obtain⟨u,hu,rfl⟩:=hx
     refine⟨rfl,fun j v hv=>?_⟩
     have hj:j=0:=by
      have:=(Array.getElem?_eq_some_iff.1 hv).1
      simpa [encH,Value.cells] using this
     subst hj
     have hv2:v=encH u:=by simpa [encH,Value.cells] using hv.symm
     subst hv2
     have hi:i<(srtH ks).toArray.size:=by simpa using (List.getElem?_eq_some_iff.1 hu).1
     have hcell:=(hH i hi).1
     have hget:(srtH ks).toArray[i]! =u:=by
      rw[getElem!_pos _ i hi]
      have:=(List.getElem?_eq_some_iff.1 hu).2
      simpa using this
     rw[hget]at hcell
     refine⟨by rw[show 0+i*1+0=0+i by omega];exact hcell,?_⟩
     rintro⟨lv',ix',w2,ver',es',hg',h2',h3',h4'⟩
     have hmm:=(hr.arr _ _ _ _ _ hg').mem (0+i*1+0-(ρ lv' ix').o) (by omega)
     obtain⟨y,hy⟩:=Option.isSome_iff_exists.1 hmm.2.1
     have:=ZIn (W:=W) (b:=(ρ lv' ix').b) hy
     have:=h.jk.size
     omega
  refine Zly (o:=oSh 10 1) (f:=.func 45) Y oSh_10_1.gd oSh_10_1.op Y Y Proofs.Tryz.call45 ?_
  show Go.Calls Proofs.Tryz.prog 45 #[(a1.put (some 36) vo).eval (.tmp 36)] W' _
  rw[hz];refine hc.mono ?_
  rintro e' W2 ⟨x,rfl,hbel,hR⟩
  refine⟨x,rfl,?_⟩;rw[oSh_10_1.dst,wpOpsIn_cons]
  refine YG oSh_10_2 Y (by simp) (Jj (x:=.tmp 37) (.inr oSh_10_2.op)) ?_
  rw[Act.put_look (by simp[Act.put];omega)]
  rw[wpOpsIn_cons]
  refine YG oSh_10_3 Y (by simp) (Jj (x:=.const (.int .i64 0)) (.inr oSh_10_3.op)) ?_
  show Code.wpIn _ _ _ _ _ _ _
  refine wpIn_ret ?_
  have hjk2:Jk W.heap.size W W2:=by
   refine⟨hbel.os.trans h.jk.os,hbel.tape.trans h.jk.tape,hbel.output.trans h.jk.output,Nat.le_trans h.jk.size hbel.size,fun i hi hne=>?_,.inl (Nat.le_refl _)⟩
   rw[hbel.block i (by have:=h.jk.size;omega)]
   exact h.jk.blk i hi hne
  refine hQ _ ρ W2 (hr.jk hjk2 hr.b0) ?_ (by simpa [Act.put] using s1) d1
  intro t
  by_cases ht:t=6
  ·subst ht
   have q:((((a1.put (some 36) vo).put (some 37) x).put (some 6) x).put (some 7) (.int .i64 0)).eval (.tmp 6)=x:=by
    rw[Act.put_other (by decide)];exact Act.put_look (by simp[Act.put];omega)
   have q2:((((a1.put (some 36) vo).put (some 37) x).put (some 6) x).put (some 7) (.int .i64 0)).tmps.getD 6 Go.undef=x:=q
   show QAbs.R _ _ (((((a1.put (some 36) vo).put (some 37) x).put (some 6) x).put (some 7) (.int .i64 0)).tmps.getD 6 Go.undef)
   rw[q2];exact hR
  ·by_cases ht7:t=7
   ·subst ht7
    have q:((((a1.put (some 36) vo).put (some 37) x).put (some 6) x).put (some 7) (.int .i64 0)).eval (.tmp 7)=.int .i64 0:=Act.put_look (by simp[Act.put];omega)
    have q2:((((a1.put (some 36) vo).put (some 37) x).put (some 6) x).put (some 7) (.int .i64 0)).tmps.getD 7 Go.undef=.int .i64 0:=q
    show QAbs.R _ _ (((((a1.put (some 36) vo).put (some 37) x).put (some 6) x).put (some 7) (.int .i64 0)).tmps.getD 7 Go.undef)
    rw[q2];exact .int _ _
   ·have q:QAbs.look [((6:Nat),(AV.lit ((srtH ks0).map hAV))),(7,.int .i64 0)] t=.any:=by simp[QAbs.look,Ne.symm ht,Ne.symm ht7]
    show QAbs.R _ (QAbs.look [((6:Nat),(AV.lit ((srtH ks0).map hAV))),(7,.int .i64 0)] t) _
    rw[q];exact .any _
 ·-- a round
  intro seen a' W' x w1 h hx hw hit hnew hjk;obtain⟨ks,hown,hnil,hperm⟩:=h.out;have hsz':=h.sz;obtain⟨hh,n,hkey,hval⟩:=hall x (ZES hx)
  have hperm2:=(ZLZ hf hx).filterMap (Zh3 (fun n=>decide (n=2)))
  rw[List.filterMap_cons,Zkh hkey hval]at hperm2;have hlb:W'.heap.size<=(setBlock w1 W.heap.size (.mapIter (some (ρ lv ix).b) clock (seen.push x.born) clock)).heap.size:=hjk.size;have hbig:=h.big
  generalize hW1:setBlock w1 W.heap.size (.mapIter (some (ρ lv ix).b) clock (seen.push x.born) clock)=W1 at *
  have hown1:=Zjd hjk hown;have jk1:=h.jk.trans (Nat.le_refl _) hjk;clear hW1 hown hw;unfold xShB;refine wpIn_block (wpIn_seq (wpIn_region ?_))
  show wpOpsIn (fen none) 0 _ #[oSh 7 0,oSh 7 1,oSh 7 2,oSh 7 3,oSh 7 4] _ [0,1,2,3,4] _ W1
  generalize ha1:(a'.put (some 25) (.tuple #[.bool true,x.key,x.val])).put (some 26) (.bool true)=a1
  have s1:a1.tmps.size=a0.tmps.size:=by rw[<- ha1];simpa [Act.put,sza] using hsz'
  have d1:a1.defers=a.defers:=by rw[<- ha1];exact h.df
  have e1:a1.eval (.tmp 24)=.pointer (some ⟨W.heap.size,0,none⟩):=by rw[<- ha1,Act.put_other (by decide),Act.put_other (by decide)];exact h.ev
  have e2:a1.eval (.tmp 10)=a'.eval (.tmp 10):=by rw[<- ha1,Act.put_other (by decide),Act.put_other (by decide)]
  generalize a'.eval (.tmp 10)=vo at *
  clear ha1;rw[wpOpsIn_cons]
  refine YG oSh_7_0 Y (by simp) (ZSK (it:=.tmp 24) oSh_7_0.op e1 hnew hit.map hf (ZES hx)) ?_
  rw[wpOpsIn_cons]
  refine YG oSh_7_1 Y (by simp) (ZET (t:=.tmp 27) (k:=0) (x:=x.key) oSh_7_1.op (Act.put_look (by omega)) Y) ?_
  rw[wpOpsIn_cons]
  refine YG oSh_7_2 Y (by simp) (ZET (t:=.tmp 27) (k:=1) (x:=x.val) oSh_7_2.op (by rw[Act.put_other (by decide)];exact Act.put_look (by omega)) Y) ?_
  generalize hb:((a1.put (some 27) (.tuple #[x.key,x.val])).put (some 28) x.key).put (some 29) x.val=a2
  have s2:a2.tmps.size=a0.tmps.size:=by rw[<- hb];simpa [Act.put] using s1
  have d2:a2.defers=a.defers:=by rw[<- hb];exact d1
  have f1:a2.eval (.tmp 24)=.pointer (some ⟨W.heap.size,0,none⟩):=by rw[<- hb,Act.put_other (by decide),Act.put_other (by decide),Act.put_other (by decide)];exact e1
  have f2:a2.eval (.tmp 10)=vo:=by rw[<- hb,Act.put_other (by decide),Act.put_other (by decide),Act.put_other (by decide)];exact e2
  have f3:a2.eval (.tmp 28)=x.key:=by rw[<- hb,Act.put_other (by decide)];exact Act.put_look (by simp[Act.put];omega)
  have f4:a2.eval (.tmp 29)=x.val:=by rw[<- hb];exact Act.put_look (by simp[Act.put];omega)
  clear hb;rw[wpOpsIn_cons]
  refine YG oSh_7_3 Y (by simp) (Jj (x:=.tmp 28) (.inr oSh_7_3.op)) ?_
  rw[wpOpsIn_cons,f3]
  refine YG oSh_7_4 Y (by simp) (Jj (x:=.tmp 29) (.inr oSh_7_4.op)) ?_
  rw[Act.put_other (by decide),f4]
  show Code.wpIn _ _ _ _ _ _ _
  generalize hb:(a2.put (some 11) x.key).put (some 12) x.val=a3
  have s3:a3.tmps.size=a0.tmps.size:=by rw[<- hb];simpa [Act.put] using s2
  have d3:a3.defers=a.defers:=by rw[<- hb];exact d2
  have g1:a3.eval (.tmp 24)=.pointer (some ⟨W.heap.size,0,none⟩):=by rw[<- hb,Act.put_other (by decide),Act.put_other (by decide)];exact f1
  have g2:a3.eval (.tmp 10)=vo:=by rw[<- hb,Act.put_other (by decide),Act.put_other (by decide)];exact f2
  have g3:a3.eval (.tmp 11)=encH hh:=by rw[<- hb,Act.put_other (by decide),<- hkey];exact Act.put_look (by omega)
  have g4:a3.eval (.tmp 12)=.int .i64 n:=by rw[<- hb,<- hval];exact Act.put_look (by simp[Act.put];omega)
  clear hb;refine wpIn_seq (wpIn_region ?_)
  show wpOpsIn (fen none) 0 _ #[oSh 8 0,oSh 8 1] _ [0,1] a3 W1
  rw[wpOpsIn_cons]
  refine YG oSh_8_0 Y (by simp) (Jj (x:=.tmp 12) (.inl oSh_8_0.op)) ?_
  rw[wpOpsIn_cons,g4]
  refine YG oSh_8_1 Y (by simp) (Zn3 (x:=.tmp 30) (y:=.const (.int .i64 2)) (k:=.i64) (m:=n) (n:=2) (b:=decide (n=2)) oSh_8_1.op (Act.put_look (by omega)) Y Y) ?_
  show Code.wpIn _ _ _ _ _ _ _
  generalize hb:(a3.put (some 30) (.int .i64 n)).put (some 31) (.bool (decide (n=2)))=a4
  have s4:a4.tmps.size=a0.tmps.size:=by rw[<- hb];simpa [Act.put] using s3
  have d4:a4.defers=a.defers:=by rw[<- hb];exact d3
  have k1:a4.eval (.tmp 24)=.pointer (some ⟨W.heap.size,0,none⟩):=by rw[<- hb,Act.put_other (by decide),Act.put_other (by decide)];exact g1
  have k2:a4.eval (.tmp 10)=vo:=by rw[<- hb,Act.put_other (by decide),Act.put_other (by decide)];exact g2
  have k3:a4.eval (.tmp 11)=encH hh:=by rw[<- hb,Act.put_other (by decide),Act.put_other (by decide)];exact g3
  have k4:a4.eval (.tmp 31)=.bool (decide (n=2)):=by rw[<- hb];exact Act.put_look (by simp[Act.put];omega)
  clear hb
  by_cases hp:decide (n=2)=true
  ·rw[if_pos hp]at hperm2
   refine wpIn_cond_true (by rw[k4,hp]) (wpIn_region ?_)
   show wpOpsIn (fen none) 0 _ #[oSh 9 0,oSh 9 1,oSh 9 2,oSh 9 3,oSh 9 4] _ [0,1,2,3,4] a4 W1
   rw[wpOpsIn_cons]
   refine YG oSh_9_0 Y (by simp) (Jj (x:=.tmp 10) (.inl oSh_9_0.op)) ?_
   rw[wpOpsIn_cons,k2]
   refine YG oSh_9_1 Y (by simp) (Jj (x:=.tmp 11) (.inl oSh_9_1.op)) ?_
   rw[Act.put_other (by decide),k3,wpOpsIn_cons]
   refine YG oSh_9_2 Y (by simp) (Zl0 (h:=hh) oSh_9_2.op (Act.put_look (by simp[Act.put];omega))) ?_
   have hcnt:ks.length<=1000000000:=by
    have h3:=hperm.length_eq
    have h4:=List.length_filterMap_le (Zh3 (fun n=>decide (n=2))) en.toList
    rw[lL]at h3;omega
   obtain⟨i0,z,q1,q2,q3,q4,q5⟩:=hinfo;have hown2:=hown1.alloc (.cells #[encH hh] 32)
   have hsz2:(W1.alloc (.cells #[encH hh] 32)).heap.size=W1.heap.size+1:=by simp
   obtain⟨v',W3,hrun,hown3,hgr,hiff⟩:=run_append_own (P:=Proofs.Tryz.prog) (w:=W1.alloc (.cells #[encH hh] 32)) (W.heap.size+1) 37 (oSh 9 3).type 32 i0 z 1 8 (by kernel_rfl) q1 q2 q3 q4 q5 (by decide) vo ks.length (ks.map encH) hown2
    ⟨W1.heap.size,0,none⟩ 1 1 [encH hh] rfl (fun j u hj=>by
     match j,hj with
     | 0,hj =>
      simp only[List.getElem?_cons_zero,oJ]at hj;subst hj
      show (W1.alloc (.cells #[encH hh] 32)).cell? ⟨W1.heap.size,0+0,none⟩=_
      rw[World.cell?_alloc_new];rfl
     | j+1,hj=>simp at hj) (fun u hu=>by simp only[List.mem_singleton]at hu;subst hu;rfl) (by unfold maxLen;omega) (by omega) (by omega)
   rw[wpOpsIn_cons]
   refine YG oSh_9_3 Y (by simp) (Zlx (v:=vo) (ad:=⟨W1.heap.size,0,none⟩) (m:=1) (c:=1) oSh_9_3.op (by rw[Act.put_other (by decide),Act.put_other (by decide)];exact Act.put_look (by omega)) (Act.put_look (by simp[Act.put];omega)) hrun) ?_
   rw[wpOpsIn_cons]
   refine YG oSh_9_4 Y (by simp) (Jj (x:=.tmp 35) (.inr oSh_9_4.op)) ?_
   rw[Act.put_look (by simp[Act.put];omega)]
   have hblk:∀i,i<=W.heap.size->W3.heap[i]?=W1.heap[i]?:=fun i hi=>by
    rw[hgr.block i (by omega) (fun q=>?_)]
    ·exact Go.RowKit.Below.heap_alloc _ _ _ (by omega)
    ·have:=(hown2.lt i q.symm).1
     omega
   have hsz3:=hgr.size
   refine⟨rfl,⟨by rw[hblk _ (by have:=QU h1;omega)];exact hit.map,clock,Nat.le_refl _,by rw[hblk _ (Nat.le_refl _)];exact hnew⟩,⟨hgr.os.trans jk1.os,hgr.tape.trans jk1.tape,hgr.output.trans jk1.output,by have:=jk1.size;omega,fun i hi hne=>?_,.inl (Nat.le_refl _)⟩,by simpa [Act.put,sza] using s4,d4,?_,by omega,ks++[hh],?_,?_,?_⟩
   ·rw[hblk i (by omega)];exact jk1.blk i hi hne
   ·rw[Act.put_other (by decide),Act.put_other (by decide),Act.put_other (by decide),Act.put_other (by decide),Act.put_other (by decide)];exact k1
   ·rw[Act.put_look (by simp[Act.put];omega),lL,List.map_append];exact hown3
   ·rw[Act.put_look (by simp[Act.put];omega),hiff];simp
   ·refine List.Perm.trans ?_ hperm
    rw[List.append_assoc];exact (hperm2.append_left ks).symm
  ·rw[if_neg hp]at hperm2
   refine wpIn_cond_false (by rw[k4];simpa using hp) (wpIn_skip ?_)
   refine⟨rfl,hit,jk1,by rw[s4,sza],d4,k1,by omega,ks,by rw[k2];exact hown1,by rw[k2];exact hnil,?_⟩
   exact (hperm2.append_left ks).symm.trans hperm
 ·refine⟨⟨?_,clock,Nat.le_refl _,?_⟩,hjk0,by simp[Act.put],rfl,Act.put_look (by simp[Act.put];omega),by simp,[],?_,?_,?_⟩
  ·exact hjk0.heap h1 Y
  ·exact World.alloc_heap_new _ _
  ·rw[Act.put_other (by decide),Act.put_other (by decide),hev10];exact World.ownsRow_nil _ _ _ _
  ·rw[Act.put_other (by decide),Act.put_other (by decide),hev10];simp
  ·rw[Zdf];exact .refl _
end Go.Q15
namespace Go.Q15
open Go Go.QAbs
variable {r':AR}{cv:AV}{a:Act}{ro:Bool}{e:Env}{f:FuncId}{it:It}{c:ItC}{A:List (Bool × List Blk)}{args caps cls:LV}{l:List Nat}{clock d i ip ix j la mx n ob ox rx tx ver wb:Nat}{x:Nd}{o:Oper}{s st:St}{t:Tr}
def h_S:List Hint:=[⟨[0,4,5],[],[],[],[],[]⟩,⟨[8,9],[],[],[],[],[]⟩,⟨[8,9,21],[],[],[],[],[]⟩,⟨[6,7],[],[],[],[],[]⟩]
def Zso:PC:=.reg [0,4,5] [⟨(some 4),none,false,.box (.s 1)⟩,⟨(some 5),none,false,.box (.s 2)⟩,⟨(some 6),none,false,.mv (.v .nils)⟩,⟨(some 7),none,false,.mv (.v (.int .i64 0))⟩]
def Zsp:PC:=.reg [6,7] [⟨(some 22),none,false,.mv (.s 9)⟩,⟨(some 6),none,false,.mv (.v .nils)⟩,⟨(some 7),none,false,.mv (.s 22)⟩]
def pS1:PC:=.seq Zso (D ZrN (D (D ZrO (E 21 (D Zsp .ret) .skip)) .skip))
theorem Zsq:toP Proofs.Tryz.prog 38 3 h_S cSh=some ((pS1,xSh),[]):=by kernel_rfl
theorem Zr8:FrX Zh4:=FrX.of fun e st r hr=>by
 unfold Zh4 at hr ⊢
 split at hr
 case h_2=>simp at hr
 rename_i lv ix h1
 simp only[oB]at hr;obtain⟨es,hes,ks,hks,hr⟩:=hr
 split at hr
 case isFalse=>simp at hr
 rename_i hc
 simp only[oJ]at hr;subst hr
 refine⟨rfl,fun M i B hh=>?_⟩
 have hg:=ZCd hes;simp only[JY hh lv ix _ hg];simp only[ZDF,oS,hks,if_pos hc]
noncomputable def shE:Ent:=.base (fnO (ZSM (S T3) itS Zh4 pS1) rsV)
noncomputable def tw:List (FuncId × Ent):=(YP,shE)::tv
noncomputable def TW:Tab:=ZAC tw
theorem Zr9(hT:TabOk Proofs.Tryz.prog T3)(hm:Proofs.Tryz.prog.follows .mixedOrders=true)(hf:Proofs.Tryz.prog.funcs[YP]?=some Proofs.Tryz.f12):ZLw Proofs.Tryz.prog YP shE:=by
 refine ZrM (c:=cSh) (O:=S T3) hf (by kernel_rfl) (fun W0 B0 hg=>?_) (Zlz hm hT Zr8 _) (by kernel_rfl)
 exact Zr6 (nt:=Proofs.Tryz.f12.ntmps) hm hT hg 3 cSh h_S [] pS1 xSh Zsq Zr7
theorem leW:TLe TV TW:=fun g y hg=>ZFl (l:=tv) (by decide +kernel) g y hg
theorem upW{r:AV × St}(h:S TV f args st=some r):S TW f args st=some r:=Zdd leW _ _ _ _ h
theorem s_pr{T T0:Tab}{X:Run}{pre:PC}{rs:List RV}{r:AV × St}(hT:T f=some (.base (fnO (ZSM (S T0) itS X pre) rs)))
 (h:∀A,A=st.ps->Ru (S T0) pre [] (fun x e s=>(x=.ret/\JA false rs (.ret,e,s)=some r)\/(x=.norm/\∃x2 e2 s2,X e s=some (x2,e2,s2)/\JA false rs (x2,e2,s2)=some r)) (QZ 0 args) ⟨A,false,[]⟩):S T f args st=some r:=by
 refine ZWM (o:=fnO (ZSM (S T0) itS X pre) rs) hT ?_;obtain⟨x,e1,s1,h1,h2⟩:=(h _ rfl).h;unfold fnO ZSM
 have:st.push=⟨st.ps,false,[]⟩:=rfl
 rw[this,h1,oS]
 rcases h2 with⟨rfl,h3⟩|⟨rfl,x2,e2,s2,h3,h4⟩
 ·simp only[JL,oS];exact h3
 ·simp only[JL,h3,oS];exact h4
def ZLa(p:Int->Bool)(c:List (Nat × Int)):List Nat:=(c.filter fun q=>p q.2).map Prod.fst
def toH(h:Nat):H64:=⟨h % 18446744073709551616,Nat.mod_lt _ (by decide)⟩
theorem Zkj(p:Int->Bool):∀c:List (Nat × Int),(∀q∈c,q.1<18446744073709551616)->ZgB p (ZC9 c)=some ((ZLa p c).map toH)
 | [],_=>rfl
 | (k,n)::c,hc=>by
  have h0:k<18446744073709551616:=hc (k,n) (by simp)
  show ZgB p ((AV.int .u64 (k:Int),AV.int .i64 n)::ZC9 c)=_
  unfold ZgB
  rw[dif_pos ⟨by omega,by omega⟩,Zkj p c fun q hq=>hc q (by simp[hq])]
  unfold ZLa;rw[List.filter_cons]
  have e:toH k=⟨((k:Nat):Int).toNat,by omega⟩:=by
   apply Fin.ext
   show k % 18446744073709551616=((k:Nat):Int).toNat
   rw[Int.toNat_natCast];omega
  by_cases hp:p n=true
  ·simp only[hp,if_true,Option.map_some,jC,e]
  ·simp[hp]
theorem Zh5(h:Nat):∀c:List (Nat × Int),(c.map Prod.fst).Nodup->((ZBn h c).map Prod.fst).Nodup/\∀x,x∈(ZBn h c).map Prod.fst↔x=h\/x∈c.map Prod.fst
 | [],_=>by simp[ZBn]
 | (k,n)::c,hc=>by
  simp only[jC,List.nodup_cons]at hc;unfold ZBn
  split
  ·rename_i e
   subst e;simp only[jC,List.nodup_cons,List.mem_cons]
   exact⟨hc,fun x=>by constructor<;>intro q<;>simp_all⟩
  ·rename_i e
   obtain⟨i1,i2⟩:=Zh5 h c hc.2;simp only[jC,List.nodup_cons,List.mem_cons]
   refine⟨⟨fun q=>?_,i1⟩,fun x=>?_⟩
   ·rcases (i2 k).1 q with q|q
    ·exact e q
    ·exact hc.1 q
   ·rw[i2];constructor<;>(rintro (q|q|q)<;>simp[q])
theorem ZCU:∀(l:List Nat) (c:List (Nat × Int)),(c.map Prod.fst).Nodup->((YE c l).map Prod.fst).Nodup/\∀x,x∈(YE c l).map Prod.fst↔x∈c.map Prod.fst\/x∈l
 | [],c,hc=>⟨hc,by simp[YE]⟩
 | h::l,c,hc=>by
  obtain⟨i1,i2⟩:=Zh5 h c hc;obtain⟨j1,j2⟩:=ZCU l (ZBn h c) i1
  refine⟨j1,fun x=>?_⟩
  show x∈(YE (ZBn h c) l).map Prod.fst↔_
  rw[j2,i2,List.mem_cons]
  constructor
  ·rintro ((q|q)|q)<;>simp[q]
  ·rintro (q|q|q)<;>simp[q]
theorem ZVz:∀ {c:List (Nat × Int)} {k:Nat} {n:Int},(c.map Prod.fst).Nodup->(k,n)∈c->Xj k c=n
 | (k0,n0)::c,k,n,hn,h=>by
  simp only[jC,List.nodup_cons]at hn;unfold Xj
  rcases List.mem_cons.1 h with q|q
  ·simp only[jP]at q
   rw[if_pos q.1.symm];exact q.2.symm
  ·rw[if_neg (fun e=>hn.1 (by rw[e];exact List.mem_map.2 ⟨(k,n),q,rfl⟩))]
   exact ZVz hn.2 q
theorem Zh6{p:Int->Bool}{c:List (Nat × Int)}(hn:(c.map Prod.fst).Nodup){x:Nat}:x∈ZLa p c↔x∈c.map Prod.fst/\p (Xj x c)=true:=by
 unfold ZLa;rw[List.mem_map]
 constructor
 ·rintro⟨⟨k,n⟩,h,rfl⟩
  rw[List.mem_filter]at h
  exact⟨List.mem_map.2 ⟨_,h.1,rfl⟩,by rw[ZVz hn h.1];exact h.2⟩
 ·rintro⟨h1,h2⟩
  obtain⟨⟨k,n⟩,h,rfl⟩:=List.mem_map.1 h1;refine⟨(k,n),List.mem_filter.2 ⟨h,?_⟩,rfl⟩;rw[ZVz hn h]at h2;exact h2
theorem ZDA{p:Int->Bool}{c:List (Nat × Int)}(hn:(c.map Prod.fst).Nodup):(ZLa p c).Nodup:=by
 unfold ZLa
 exact ((List.filter_sublist (p:=fun q=>p q.2) (l:=c)).map Prod.fst).nodup hn
def Zje(l:List Nat):List Nat:=(srtH (l.map toH)).map Fin.val
theorem Zql(l:List H64):l.map hAV=(l.map Fin.val).map QB:=by rw[List.map_map];rfl
theorem Zqm(hl:∀x∈l,x<18446744073709551616)(hn:l.Nodup):(l.map toH).Nodup:=by
 induction l with
 | nil=>simp
 | cons a l ih =>
  rw[List.nodup_cons]at hn;rw[jC,List.nodup_cons]
  refine⟨fun h=>?_,ih (fun x hx=>hl x (by simp[hx])) hn.2⟩
  obtain⟨b,hb,e⟩:=List.mem_map.1 h
  have h1:=hl a (by simp)
  have h2:=hl b (by simp[hb])
  have e2:b % 18446744073709551616=a % 18446744073709551616:=congrArg Fin.val e
  have:b=a:=by omega
  subst this;exact hn.1 hb
end Go.Q15
