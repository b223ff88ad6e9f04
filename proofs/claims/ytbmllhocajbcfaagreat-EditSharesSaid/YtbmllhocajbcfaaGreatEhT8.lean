/- A part of the proof: RG, RH, RI, RJ, RK, M52, RL, S4, S5, S6, YX, W7, RN, RO, W8, RP, SA, RS, RQ, RT, RU, RV, M18, PO, RW, M40, RX, W9, SB, SC, RY, RZ, SD, SE, SF, SG, SI, SJ, SK, SL, SN, SO, SPa, SSa. No condition. -/
import Derived.Test.YtbmllhocajbcfaaGreatEhT7
set_option linter.unusedVariables false
set_option linter.unusedSimpArgs false
namespace Go.Q15
open Go Go.QAbs
set_option maxRecDepth 100000
set_option maxHeartbeats 8000000
def Q9 (ρ:Nat->Ro):ItC->Nd
 | .leaf s=>⟨0,s,none⟩
 | .inn h ks=>⟨h,[],some (ks.map fun k=>(ρ k).kid)⟩
def Zht:ItC->List Nat
 | .leaf _=>[]
 | .inn _ ks=>ks
theorem ZoR (x:Nd):weak x.av=x.av:=by
 obtain ⟨h,s,k⟩:=x
 cases k<;>rfl
theorem wkPN {a:AV} (h:weak a=a) (x:Nd):ZX (ZZ ([]++[a,x.av]++[]))=some [a,x.av]:=by
 simp only [lE,lN,lC,ZZ,ZoR,ZX,h]
theorem Zj5 {ρ:Nat->Ro} {c:ItC} (h:NdOk (Q9 ρ c)):((Q9 ρ c).h=0->(Q9 ρ c).kids=none)/\∀ hh ks,c=.inn hh ks->1<=ks.length/\ks.length<=4:=by
 cases c with
 | leaf s=>exact ⟨fun _=>rfl,fun hh ks q=>by simp at q⟩
 | inn hh ks =>
  rcases h with q|⟨n,l,q⟩
  ·have:=q.lo;simp [Q9] at this
  ·have e:=q.eq
   have h1:=q.lo;have h2:=q.hi;simp only [Q9,Nd.mk.injEq,oJ] at e;obtain ⟨e1,_,e3⟩:=e
   refine ⟨fun w=>by simp [Q9] at w;omega,fun hh' ks' q2=>?_⟩
   simp only [ItC.inn.injEq] at q2;obtain ⟨rfl,rfl⟩:=q2;rw [<- e3,List.length_map] at h1 h2;omega
theorem Zj6 {st:St} {n:Nat} {F:List (Nat × Blk)} {ρ:Nat->Ro} {cv:AV} {c:ItC} (hcv:CvOk n F cv c) (hF:∀ p∈F,st.get n p.1=some p.2) (hR:∀ r∈Zht c,st.get n r=some (.arr 5 0 [(ρ r).av])) (hl:∀ h ks,c=.inn h ks->1<=ks.length/\ks.length<=4) :
 S Tb (match cv with|.func (.func g) _ _=>g|_=>0) (match cv with|.func _ _ cap=>cap|_=>[]) st=some ((Q9 ρ c).av,st):=by
 cases c with
 | leaf s =>
  obtain ⟨xb,rfl,h2⟩:=hcv;exact ZoP (hF _ h2)
 | inn h ks =>
  obtain ⟨tb,kb,kx,t,rfl,h2,h3,h4,h5⟩:=hcv;subst h2;exact ZoQ (hF _ h3) (hF _ h4) (hF _ h5) hR (hl _ _ rfl)
theorem CvOk.form {n:Nat} {F:List (Nat × Blk)} {cv:AV} {c:ItC} (h:CvOk n F cv c):Cv n cv:=by
 cases c with
 | leaf s=>obtain ⟨xb,rfl,_⟩:=h;exact .one _
 | inn h ks=>obtain ⟨tb,kb,kx,t,rfl,_⟩:=h;exact .two _ _
def Ro.wr (r:Ro) (h:Nat):Ro:=⟨h,r.h,r.m⟩
theorem ZoS {st:St} {n ip la b b0 b1 b2:Nat} {td rp cv:AV} {r:AR} {F:List (Nat × Blk)} {ρ:Nat->Ro} {it:It} (hb0:st.get n b0=some (.arr 1 0 [.ptr n ip 0 0 0])) (hb1:st.get n b1=some (.arr 1 0 [cv])) (hb2:st.get n b2=some (.arr 1 0 [.ptr n it.rx 0 0 0]))
 (hip:st.get n ip=some (.arr 3 0 [.agg [.ptr la (b+5) 0 0 0,td,rp]])) (hcv:CvOk n F cv it.c) (hF:∀ p∈F,st.get n p.1=some p.2) (hR:∀ k∈Zht it.c,st.get n k=some (.arr 5 0 [(ρ k).av])) (hrx:st.get n it.rx=some (.arr 5 0 [(ρ it.rx).av]))
 (hA:Has st la b r) (ho:AROk r) (hn:0<r.n) (hx:NdOk (Q9 ρ it.c)) (hL:∀ k∈(Q9 ρ it.c).ks,∃ y,lk r.nodes k.at_=some y/\NdOk y/\y.h+1=(Q9 ρ it.c).h/\y.mea=k.m) (hw:st.wr n)
 (hs:∀ i,i=it.rx\/i=b2->¬ (n=la/\b<=i/\i<=b+5)) :
 S Tb XL [.ptr n b0 0 0 0,.ptr n b1 0 0 0,.ptr n b2 0 0 0] st=some (.tup [.int .u64 r.next,.int .i64 0],(Qb st la b (r.add (Q9 ρ it.c))).upd n it.rx (.arr 5 0 [((ρ it.rx).wr r.next).av])):=by
 obtain ⟨hk0,hk4⟩:=Zj5 hx
 refine ZBD rfl (fun A hA'=>?_)
 have g0:=fun L=>ZS hA' (ro:=false) (L:=L) hb0
 have g1:=fun L=>ZS hA' (ro:=false) (L:=L) hb1
 have g2:=fun L=>ZS hA' (ro:=false) (L:=L) hb2
 have g3:=fun L=>ZS hA' (ro:=false) (L:=L) hip
 have hC:=fun L=>Zj6 (st:=St.allRo ⟨A,false,L⟩) (ρ:=ρ) hcv (fun p hp=>by rw [JE];exact ZS hA' (hF p hp)) (fun k hk=>by rw [JE];exact ZS hA' (hR k hk)) hk4
 have hAl:=fun L=>Zlo (hA.push hA' (ro:=false) (L:=L)) ho hn hx hk0 hL
 have hle:=hA.le;have hP:=hA.put (r.add (Q9 ρ it.c));have hw1:(Qb st la b (r.add (Q9 ρ it.c))).wr n:=ZNj hA.cl.wr hw
 have hg2:(Qb st la b (r.add (Q9 ρ it.c))).get n b2=some (.arr 1 0 [.ptr n it.rx 0 0 0]):=by rw [hA.out _ (hs _ (.inr rfl))];exact hb2
 have hgr:(Qb st la b (r.add (Q9 ρ it.c))).get n it.rx=some (.arr 5 0 [(ρ it.rx).av]):=by rw [hA.out _ (hs _ (.inl rfl))];exact hrx
 cases hcv.form
 all_goals simp only at hC
 all_goals repeat' (first|refine ZA rfl rfl (wkPN rfl _) (hAl _) ?_|refine ZE ?_|refine ZD ?_|refine ZF rfl ?_|refine ZU rfl rfl ?_|refine Zq rfl rfl ?_|refine ZB rfl ?_|refine ZC ?_|refine Z7 rfl rfl ?_|(refine Zp rfl rfl (fun _=>?_) (fun _=>?_)<;>try (exfalso;omega))|refine ZV rfl ?_|refine Z9 rfl (g0 _) rfl rfl ?_|refine Z9 rfl (g1 _) rfl rfl ?_|refine Z9 rfl (g3 _) rfl rfl ?_|refine JM rfl rfl rfl (hC _) ?_)
 all_goals rw [XP hA' hle]
 all_goals obtain ⟨A1,hA1⟩:∃ A1,A1=(Qb st la b (r.add (Q9 ρ it.c))).ps:=⟨_,rfl⟩
 all_goals rw [<- hA1]
 all_goals generalize Qb st la b (r.add (Q9 ρ it.c))=st1 at *
 all_goals have q2:=fun L=>ZS hA1 (ro:=false) (L:=L) hg2
 all_goals repeat' (first|refine ZF rfl ?_|refine ZU rfl rfl ?_|refine Z7 rfl rfl ?_|refine Z9 rfl (q2 _) rfl rfl ?_)
 all_goals refine ZHT hA1 rfl rfl hw1 hgr rfl rfl rfl (fun A2 hA2=>?_)
 all_goals repeat' (first|refine ZE ?_|refine ZD ?_|refine ZF rfl ?_|refine ZB rfl ?_|refine ZC ?_|refine ZQ ?_|refine ZL ?_)
 all_goals refine Zg hA2 (.inr rfl) rfl rfl rfl rfl ?_
 all_goals rfl
theorem Zpa {st:St} {n ip la b b0 b1 b2 tx ver j:Nat} {rp cv cl:AV} {cls:List AV} {r:AR} {F:List (Nat × Blk)} {ρ:Nat->Ro} {it:It} (htd:st.get n tx=some (.arr 1 ver cls)) (hj:cls[j]?=some cl) (hcl:ClOk n ip F cl it) (hlen:cls.length<1000000)
 (hip:st.get n ip=some (.arr 3 0 [.agg [.ptr la (b+5) 0 0 0,.ref n tx ver j (cls.length-j),rp]])) (hF:∀ p∈F,st.get n p.1=some p.2) (hR:∀ k∈Zht it.c,st.get n k=some (.arr 5 0 [(ρ k).av])) (hrx:st.get n it.rx=some (.arr 5 0 [(ρ it.rx).av]))
 (hA:Has st la b r) (ho:AROk r) (hn:0<r.n) (hx:NdOk (Q9 ρ it.c)) (hL:∀ k∈(Q9 ρ it.c).ks,∃ y,lk r.nodes k.at_=some y/\NdOk y/\y.h+1=(Q9 ρ it.c).h/\y.mea=k.m) (hw:st.wr n)
 (hs:∀ i,i=it.rx\/i=ip\/i=tx\/(∃ p∈F,i=p.1)->¬ (n=la/\b<=i/\i<=b+5)) (hne:it.rx≠ip/\it.rx≠tx/\tx≠ip) :
 S Tb Xh [.ptr n ip 0 0 0] st=some (.tup [.int .u64 r.next,.bool (decide (cls.length=j+1)),.int .i64 0],
  ((Qb st la b (r.add (Q9 ρ it.c))).upd n it.rx (.arr 5 0 [((ρ it.rx).wr r.next).av])).upd n ip (.arr 3 0 [.agg [.ptr la (b+5) 0 0 0,.ref n tx ver (j+1) (cls.length-j-1),rp]])):=by
 obtain ⟨b0,b1,b2,cv,rfl,h0,h1,h2,hcv⟩:=hcl;have hjl:=(List.getElem?_eq_some_iff.1 hj).1
 refine ZBD rfl (fun A hA'=>?_)
 have g3:=fun L=>ZS hA' (ro:=false) (L:=L) hip
 have gt:=fun L=>ZS hA' (ro:=false) (L:=L) htd
 have hwi:∀ L,wIs 1 ver (St.get ⟨A,false,L⟩ n tx)=true:=fun L=>by rw [gt];simp [wIs]
 have hle:=hA.le;have hnl:n<=st.A.length:=St.get_le hip;have hP:=hA.put (r.add (Q9 ρ it.c));have hw1:(Qb st la b (r.add (Q9 ρ it.c))).wr n:=ZNj hA.cl.wr hw;have hp1:=hs ip (.inr (.inl rfl));have hp2:=hs tx (.inr (.inr (.inl rfl)));have hp3:=hs it.rx (.inl rfl);have k1:(Qb st la b (r.add (Q9 ρ it.c))).get n it.rx=_:=(hA.out _ hp3).trans hrx;have k2:(Qb st la b (r.add (Q9 ρ it.c))).get n ip=_:=(hA.out _ hp1).trans hip;have k3:(Qb st la b (r.add (Q9 ρ it.c))).get n tx=_:=(hA.out _ hp2).trans htd
 have hput:=fun L=>ZoS (st:=⟨A,false,L⟩) (ρ:=ρ) (ZS hA' (hF _ h0)) (ZS hA' (hF _ h1)) (ZS hA' (hF _ h2)) (g3 L) hcv (fun p hp=>ZS hA' (hF p hp)) (fun k hk=>ZS hA' (hR k hk)) (ZS hA' hrx) (hA.push hA' (ro:=false) (L:=L)) ho hn hx hL (XG hA' hnl hw)
  (fun i hi=>by
   rcases hi with rfl|rfl
   ·exact hp3
   ·exact hs _ (.inr (.inr (.inr ⟨_,h2,rfl⟩))))
 have e1:∀ L,(Qb ⟨A,false,L⟩ la b (r.add (Q9 ρ it.c))).upd n it.rx (.arr 5 0 [((ρ it.rx).wr r.next).av])=⟨((Qb st la b (r.add (Q9 ρ it.c))).upd n it.rx (.arr 5 0 [((ρ it.rx).wr r.next).av])).ps,false,L⟩:=fun L=>by
  rw [XP hA' hle]
  exact Jj rfl (by rw [ZDd];exact hnl)
 simp only [e1] at hput;clear e1
 have m1:∀ l' i',((Qb st la b (r.add (Q9 ρ it.c))).upd n it.rx (.arr 5 0 [((ρ it.rx).wr r.next).av])).get l' i'=if l'=n/\i'=it.rx then some (.arr 5 0 [((ρ it.rx).wr r.next).av]) else (Qb st la b (r.add (Q9 ρ it.c))).get l' i':=fun l' i'=>St.get_upd k1 rfl
 have n2:=(m1 n ip).trans ((if_neg (fun q=>hne.1 q.2.symm)).trans k2)
 have n3:=(m1 n tx).trans ((if_neg (fun q=>hne.2.1 q.2.symm)).trans k3)
 have hw2:((Qb st la b (r.add (Q9 ρ it.c))).upd n it.rx (.arr 5 0 [((ρ it.rx).wr r.next).av])).wr n:=St.wr_upd hw1 hw1;clear m1 k1 k2 k3
 generalize (Qb st la b (r.add (Q9 ρ it.c))).upd n it.rx (.arr 5 0 [((ρ it.rx).wr r.next).av])=st1 at *
 have hj2:cls[j+((0:Nat):Int).toNat]?=some (clV n b0 b1 b2):=by simpa using hj
 unfold clV at hj2
 repeat' (first|refine ZE ?_|refine ZD ?_|refine ZF rfl ?_|refine ZU rfl rfl ?_|refine ZB rfl ?_|refine ZC ?_|refine Z7 rfl rfl ?_|refine Qd rfl ?_|(refine Zp rfl rfl (fun _=>?_) (fun _=>?_)<;>try (exfalso;omega))|refine ZG rfl ?_|refine JO rfl rfl rfl rfl ?_|refine Z9 rfl (g3 _) rfl rfl ?_|refine Y4 rfl rfl (by omega) (hwi _) ?_|refine Z9 rfl (gt _) hj2 rfl ?_|refine ZI ?_)
 all_goals try (exfalso;omega)
 refine ZA rfl rfl rfl (hput _) ?_;obtain ⟨A1,hA1⟩:∃ A1,A1=st1.ps:=⟨_,rfl⟩;rw [<- hA1]
 have q2:=fun L=>ZS hA1 (ro:=false) (L:=L) n2
 have q3:=fun L=>ZS hA1 (ro:=false) (L:=L) n3
 have hwi1:∀ L,wIs 1 ver (St.get ⟨A1,false,L⟩ n tx)=true:=fun L=>by rw [q3];simp [wIs]
 repeat' (first|refine ZE ?_|refine ZD ?_|refine ZF rfl ?_|refine ZU rfl rfl ?_|refine Zq rfl rfl ?_|refine ZB rfl ?_|refine ZC ?_|refine Z7 rfl rfl ?_|(refine Zl rfl rfl (fun _=>?_) (fun _=>?_)<;>try (exfalso;omega))|refine ZG rfl ?_|refine Z9 rfl (q2 _) rfl rfl ?_|refine ZKS rfl rfl (by omega) (hwi1 _) ?_|refine ZI ?_)
 all_goals try contradiction
 refine ZHT hA1 rfl rfl hw2 n2 rfl (JP _ (Nat.lt_succ_self _)) rfl (fun A2 hA2=>?_)
 have eB:Blk.arr 3 0 ([AV.agg [.ptr la (b+5) 0 0 0,.ref n tx ver j (cls.length-j),rp]].set 0 (.agg [.ptr la (b+5) 0 0 0,.ref n tx ver (j+(1:Int).toNat) (cls.length-j-(1:Int).toNat),rp]))=Blk.arr 3 0 [.agg [.ptr la (b+5) 0 0 0,.ref n tx ver (j+1) (cls.length-j-1),rp]]:=rfl;rw [eB] at hA2;have r2:(st1.upd n ip (Blk.arr 3 0 [.agg [.ptr la (b+5) 0 0 0,.ref n tx ver (j+1) (cls.length-j-1),rp]])).get n ip=_:=(St.get_upd n2 rfl).trans (if_pos ⟨rfl,rfl⟩)
 have p2:=fun L=>ZS hA2 (ro:=false) (L:=L) r2
 repeat' (first|refine ZE ?_|refine ZD ?_|refine ZF rfl ?_|refine ZU rfl rfl ?_|refine ZB rfl ?_|refine ZC ?_|refine Z7 rfl rfl ?_|refine Qd rfl ?_|(refine Zp rfl rfl (fun _=>?_) (fun _=>?_)<;>try (exfalso;omega))|refine Z9 rfl (p2 _) rfl rfl ?_|refine ZQ ?_|refine ZL ?_)
 ·rename_i hz
  rw [decide_eq_true (show cls.length=j+1 by omega)]
  exact Zg hA2 (.inr rfl) rfl rfl rfl rfl rfl
 ·rename_i hz
  rw [decide_eq_false (show ¬ cls.length=j+1 by omega)]
  exact Zg hA2 (.inr rfl) rfl rfl rfl rfl rfl
def Ext (N M:ZP):Prop:=∀ o x,lk N o=some x->lk M o=some x
theorem Ext.refl (N:ZP):Ext N N:=fun _ _ h=>h
theorem Ext.trans {N M K:ZP} (h:Ext N M) (g:Ext M K):Ext N K:=fun o x q=>g o x (h o x q)
theorem Val.ext {N M:ZP} (hs:Ext N M) {t:Tr} (hv:Val N t):Val M t:=by
 induction hv with
 | kept h0 hx hok hh hm hk=>exact .kept h0 (hs _ _ hx) hok hh hm hk
 | leaf h1 h2 hk=>exact .leaf h1 h2 hk
 | inner hh h2 h4 hl hb hv ih=>exact .inner hh h2 h4 hl hb ih
theorem ZJH {N M:ZP} (hN:GoodN N) (hs:Ext N M):∀ n o x,lk N o=some x->x.h=n->Je M n o=Je N n o:=by
 intro n
 induction n with
 | zero=>intro o x hx hh;rw [Je,Je,hx,hs _ _ hx]
 | succ n ih =>
  intro o x hx hh;rw [Je,Je,hx,hs _ _ hx];simp only [Option.map_some,Option.getD_some];have hk:=(hN o x hx).2
  have key:∀ l:List Kid,(∀ k∈l,k∈x.ks)->(l.flatMap fun k=>Je M n k.at_)=l.flatMap fun k=>Je N n k.at_:=by
   intro l
   induction l with
   | nil=>intro _;rfl
   | cons k l ih2 =>
    intro h
    obtain ⟨_,y,y1,y2,_⟩:=hk k (h k (by simp))
    rw [List.flatMap_cons,List.flatMap_cons,ih k.at_ y y1 (by omega),ih2 (fun q hq=>h q (by simp [hq]))]
  exact key _ fun _ h=>h
theorem ZUS {r:AR} (ho:AROk r) (hn:0<r.n) (x:Nd):Ext r.nodes (r.add x).nodes:=fun o y h=>by
 rw [ZF3 ho hn,if_neg]
 ·exact h
 ·intro q;rw [q,ho.new hn] at h;simp at h
def ZQm (N:ZP) (x:Nd):Prop:=∀ k∈x.ks,∃ y,lk N k.at_=some y/\NdOk y/\y.h+1=x.h/\y.mea=k.m
theorem Zlt {r:AR} (ho:AROk r) (hn:0<r.n) (hg:GoodN r.nodes) {x:Nd} (hx:NdOk x) (hk:ZQm r.nodes x) (h0:∀ k∈x.ks,k.at_≠0):GoodN (r.add x).nodes:=by
 intro o y h;have hE:=ZUS ho hn x;rw [ZF3 ho hn] at h
 split at h
 ·simp only [oJ] at h
  subst h
  refine ⟨hx.copy,fun k hkk=>?_⟩
  have hkk':k∈x.ks:=hkk;obtain ⟨z,z1,z2,z3,z4⟩:=hk k hkk';exact ⟨h0 k hkk',z,hE _ _ z1,z3,z4⟩
 ·obtain ⟨h1,h2⟩:=hg o y h
  refine ⟨h1,fun k hkk=>?_⟩
  obtain ⟨g0,z,z1,z2,z3⟩:=h2 k hkk;exact ⟨g0,z,hE _ _ z1,z2,z3⟩
theorem AROk.hnd {r:AR} (h:AROk r) {o:Nat} {x:Nd} (hx:lk r.nodes o=some x):ZBp o/\o≠0:=by
 obtain ⟨s,g,h1,h2,h3,h4⟩:=h.key o x hx;obtain ⟨g',g1,g2,g3⟩:=h.gen s h2;rw [h4] at g1;simp only [oJ] at g1
 have:=h.n16
 have:=h.most
 unfold ZBp;omega
def ZN0 (ρ:Nat->Ro) (k h:Nat):Nat->Ro:=fun i=>if i=k then (ρ i).wr h else ρ i
inductive RunOk:List It->AR->(Nat->Ro)->AR->(Nat->Ro)->List Nat->Prop
 | nil {r ρ}:RunOk [] r ρ r ρ []
 | cons {it its r ρ r' ρ' hs} (hn:0<r.n) (hx:NdOk (Q9 ρ it.c)) (hk:ZQm r.nodes (Q9 ρ it.c)) (h:RunOk its (r.add (Q9 ρ it.c)) (ZN0 ρ it.rx r.next) r' ρ' hs):RunOk (it::its) r ρ r' ρ' (r.next::hs)
theorem RunOk.append {i1 i2:List It} {r r1 r2:AR} {ρ ρ1 ρ2:Nat->Ro} {h1 h2:List Nat} (h:RunOk i1 r ρ r1 ρ1 h1) (g:RunOk i2 r1 ρ1 r2 ρ2 h2):RunOk (i1++i2) r ρ r2 ρ2 (h1++h2):=by
 induction h with
 | nil=>exact g
 | cons hn hx hk h ih=>exact .cons hn hx hk (ih g)
namespace Tr
mutual
def wr:Tr->AR->AR × Ro × List Nat
 | .mk o h m s k,r =>
  if o≠0 then (r,⟨o,h,m⟩,[])
  else if h=0 then (r.add ⟨0,s,none⟩,⟨r.next,0,XM s⟩,[r.next])
  else ((wrO k r).1.add ⟨h,[],some (wrO k r).2.1⟩,⟨(wrO k r).1.next,h,Qf ((wrO k r).2.1.map Kid.m)⟩,(wrO k r).2.2++[(wrO k r).1.next])
def wrO:Option (List Tr)->AR->AR × List Kid × List Nat
 | none,r=>(r,[],[])
 | some l,r=>wrL l r
def wrL:List Tr->AR->AR × List Kid × List Nat
 | [],r=>(r,[],[])
 | t::l,r=>((wrL l (t.wr r).1).1,(t.wr r).2.1.kid::(wrL l (t.wr r).1).2.1,(t.wr r).2.2++(wrL l (t.wr r).1).2.2)
end
end Tr
structure WrB (r:AR) (c:Nat) (r':AR) (hs:List Nat):Prop where
 ok:AROk r'
 good:GoodN r'.nodes
 ext:Ext r.nodes r'.nodes
 n:r'.n+c=r.n
 len:hs.length=c
 new:∀ h∈hs,lk r.nodes h=none
 all:∀ h x,lk r'.nodes h=some x->lk r.nodes h=some x\/h∈hs
 has:∀ h∈hs,∃ x,lk r'.nodes h=some x
 nodup:hs.Nodup
 frees:r'.frees=r.frees
 stale:r'.stale=r.stale
 slots:r'.slots=r.slots
 allocs:r'.allocs=r.allocs+c
 nl:r'.nodes.length=r.nodes.length+c
theorem WrB.refl {r:AR} (ho:AROk r) (hg:GoodN r.nodes):WrB r 0 r [] :=
 ⟨ho,hg,.refl _,by simp,rfl,fun h q=>by simp at q,fun h x q=>.inl q,fun h q=>by simp at q,by simp,rfl,rfl,rfl,by simp,by simp⟩
theorem WrB.trans {r r1 r2:AR} {c d:Nat} {h1 h2:List Nat} (h:WrB r c r1 h1) (g:WrB r1 d r2 h2):WrB r (c+d) r2 (h1++h2):=by
 refine ⟨g.ok,g.good,h.ext.trans g.ext,by have:=h.n;have:=g.n;omega,by rw [lL,h.len,g.len],fun o ho=>?_,fun o x ho=>?_,fun o ho=>?_,?_,g.frees.trans h.frees,g.stale.trans h.stale,g.slots.trans h.slots,by rw [g.allocs,h.allocs];omega,by rw [g.nl,h.nl];omega⟩
 ·rcases List.mem_append.1 ho with q|q
  ·exact h.new o q
  ·cases hk:lk r.nodes o with
   | none=>rfl
   | some x=>have:=g.new o q;rw [h.ext _ _ hk] at this;simp at this
 ·rcases g.all o x ho with q|q
  ·rcases h.all o x q with w|w
   ·exact .inl w
   ·exact .inr (by simp [w])
  ·exact .inr (by simp [q])
 ·rcases List.mem_append.1 ho with q|q
  ·obtain ⟨x,hx⟩:=h.has o q
   exact ⟨x,g.ext _ _ hx⟩
  ·exact g.has o q
 ·rw [List.nodup_append]
  refine ⟨h.nodup,g.nodup,fun x hx y hy e=>?_⟩
  subst e;obtain ⟨z,hz⟩:=h.has x hx;rw [g.new x hy] at hz
  simp at hz
theorem WrB.one {r:AR} (ho:AROk r) (hn:0<r.n) (hg:GoodN r.nodes) {x:Nd} (hx:NdOk x) (hk:ZQm r.nodes x) (h0:∀ k∈x.ks,k.at_≠0):WrB r 1 (r.add x) [r.next]:=by
 refine ⟨ho.add hn x,Zlt ho hn hg hx hk h0,ZUS ho hn x,?_,rfl,fun o q=>?_,fun o y q=>?_,fun o q=>?_,by simp,rfl,rfl,rfl,rfl,by simp [AR.add,AR.alloc]⟩
 ·show r.n-1+1=r.n;omega
 ·simp only [List.mem_singleton] at q;subst q;exact ho.new hn
 ·rw [ZF3 ho hn] at q
  split at q
  ·rename_i e;exact .inr (by simp [e])
  ·exact .inl q
 ·simp only [List.mem_singleton] at q
  exact ⟨x.copy,by rw [ZF3 ho hn,if_pos q]⟩
end Go.Q15
namespace Go.Q15
open Go Go.QAbs
set_option maxRecDepth 100000
structure WrOk (N:ZP) (t:Tr) (r':AR) (ro:Ro):Prop where
 rm:ro.m=t.mea
 rh:ro.h=t.h
 live:∃ y,lk r'.nodes ro.at_=some y/\NdOk y/\y.h=t.h/\y.mea=t.mea
 txt:Je r'.nodes t.h ro.at_=t.txt N
def Exec (N:ZP) (t:Tr):Prop:=∀ (r:AR),AROk r->GoodN r.nodes->Ext N r.nodes->t.cnt<=r.n->∀ (rx:Nat) (its:List It) (R:List (Nat × Ro)) (ρ:Nat->Ro),AddT t rx its R->(∀ p∈R,ρ p.1=p.2)->(R.map Prod.fst).Nodup ->
 ∃ ρ',RunOk its r ρ (t.wr r).1 ρ' (t.wr r).2.2/\ρ' rx=(t.wr r).2.1/\(∀ k,k∉R.map Prod.fst->ρ' k=ρ k)/\WrB r t.cnt (t.wr r).1 (t.wr r).2.2/\WrOk N t (t.wr r).1 (t.wr r).2.1
structure WrLs (N:ZP) (l:List Tr) (h:Nat) (r':AR) (ks:List Kid):Prop where
 len:ks.length=l.length
 m:ks.map Kid.m=l.map Tr.mea
 ok:∀ k∈ks,KidOk h k/\k.at_≠0/\∃ y,lk r'.nodes k.at_=some y/\NdOk y/\y.h=h/\y.mea=k.m
 txt:(ks.flatMap fun k=>Je r'.nodes h k.at_)=Tr.txtL N l
theorem ZqD {N:ZP} (hN:GoodN N) {h:Nat}:∀ (l:List Tr),(∀ u∈l,Val N u/\u.h=h/\Big u)->(∀ u∈l,Exec N u)->∀ (r:AR),AROk r->GoodN r.nodes->Ext N r.nodes->Tr.cntL l<=r.n->∀ (rs:List Nat) (its:List It) (R:List (Nat × Ro)) (ρ:Nat->Ro),AddL l rs its R->(∀ p∈R,ρ p.1=p.2)->(R.map Prod.fst).Nodup ->
 ∃ ρ',RunOk its r ρ (Tr.wrL l r).1 ρ' (Tr.wrL l r).2.2/\(rs.map fun k=>(ρ' k).kid)=(Tr.wrL l r).2.1/\(∀ k,k∉R.map Prod.fst->ρ' k=ρ k)/\WrB r (Tr.cntL l) (Tr.wrL l r).1 (Tr.wrL l r).2.2/\WrLs N l h (Tr.wrL l r).1 (Tr.wrL l r).2.1:=by
 intro l
 induction l with
 | nil =>
  intro _ _ r ho hg hE hc rs its R ρ ha hR hnd
  cases ha
  exact ⟨ρ,.nil,rfl,fun _ _=>rfl,.refl ho hg,⟨rfl,rfl,fun k hk=>by simp [Tr.wrL] at hk,rfl⟩⟩
 | cons t l ih =>
  intro hv hx r ho hg hE hc rs its R ρ ha hR hnd
  cases ha with
  | @cons _ _ rx rs i1 i2 R1 R2 ht hl =>
   rw [Tr.cntL] at hc;rw [List.map_append,List.nodup_append] at hnd;obtain ⟨nd1,nd2,nd3⟩:=hnd
   obtain ⟨ρ1,a1,a2,a3,a4,a5⟩:=hx t (by simp) r ho hg hE (by omega) rx i1 R1 ρ ht (fun p hp=>hR p (by simp [hp])) nd1
   have hn1:=a4.n
   have hd:∀ p∈R2,p.1∉R1.map Prod.fst:=fun p hp q=>nd3 _ q _ (List.mem_map.2 ⟨p,hp,rfl⟩) rfl
   obtain ⟨ρ2,b1,b2,b3,b4,b5⟩:=ih (fun u hu=>hv u (by simp [hu])) (fun u hu=>hx u (by simp [hu])) _ a4.ok a4.good (hE.trans a4.ext) (by omega) rs i2 R2 ρ1 hl (fun p hp=>by rw [a3 _ (hd p hp)];exact hR p (by simp [hp])) nd2
   obtain ⟨rr,hrr,_,_⟩:=ht.root
   have hrx:rx∉R2.map Prod.fst:=fun q=>nd3 rx (List.mem_map.2 ⟨_,hrr,rfl⟩) rx q rfl
   obtain ⟨v1,v2,v3⟩:=hv t (by simp)
   refine ⟨ρ2,a1.append b1,?_,?_,?_,?_⟩
   ·rw [jC,b3 rx hrx,a2,b2];rfl
   ·intro k hk
    rw [List.map_append,List.mem_append,not_or] at hk;rw [b3 k hk.2,a3 k hk.1]
   ·rw [Tr.cntL];exact a4.trans b4
   ·obtain ⟨y,y1,y2,y3,y4⟩:=a5.live
    have hh:=a4.ok.hnd y1;have hkm:((t.wr r).2.1.kid).m=t.mea:=a5.rm;have hka:((t.wr r).2.1.kid).at_=(t.wr r).2.1.at_:=rfl
    refine ⟨by show _+1=_;rw [b5.len];rfl,?_,?_,?_⟩
    ·show ((t.wr r).2.1.kid).m::_=_
     rw [hkm,b5.m];rfl
    ·intro k hk
     rcases List.mem_cons.1 hk with rfl|q
     ·refine ⟨?_,hh.2,y,b4.ext _ _ y1,y2,by rw [y3,v2],by rw [y4];exact hkm.symm⟩
      have hs:=v1.size hN v3;have hb:=v1.mea_ok.1
      have:=y2.kid (a:=(t.wr r).2.1.at_) (by rw [y3,y4,hb];exact hs) hh.1
      rw [y3,v2,y4,<- a5.rm] at this;exact this
     ·exact b5.ok k q
    ·show Je (Tr.wrL l (t.wr r).1).1.nodes h (t.wr r).2.1.at_++((Tr.wrL l (t.wr r).1).2.1.flatMap fun k=>Je (Tr.wrL l (t.wr r).1).1.nodes h k.at_)=_
     rw [b5.txt,Tr.txtL,<- a5.txt,v2]
     congr 1
     exact ZJH a4.good b4.ext h _ y y1 (by rw [y3,v2])
theorem exec_ok {N:ZP} (hN:GoodN N) {t:Tr} (hv:Val N t):t.bytes<=65536->Exec N t:=by
 induction hv with
 | @kept o h m k x h0 hx hok hh hm hk =>
  intro _ r ho hg hE hc rx its R ρ ha hR hnd
  have e:(Tr.mk o h m [] k).wr r=(r,⟨o,h,m⟩,[]):=by rw [Tr.wr,if_pos h0]
  have ec:(Tr.mk o h m [] k).cnt=0:=by rw [Tr.cnt,Tr.cntO_getD,hk,if_neg h0];rfl
  rw [e,ec]
  cases ha with
  | kept _ =>
   refine ⟨ρ,.nil,hR (rx,⟨o,h,m⟩) (by simp),fun _ _=>rfl,.refl ho hg,⟨(ZNz h0).symm,rfl,⟨x,hE _ _ hx,hok,hh,by rw [ZNz h0];exact hm⟩,?_⟩⟩
   show Je r.nodes h o=_
   rw [ZJH hN hE h o x hx hh,Tr.txt,if_neg h0,Tr.txtO_getD,hk]
   simp [Tr.txtL]
  | leaf=>exact absurd rfl h0
  | inner=>exact absurd rfl h0
 | @leaf s k h1 h2 hk =>
  intro _ r ho hg hE hc rx its R ρ ha hR hnd
  have e:(Tr.mk 0 0 .zero s k).wr r=(r.add ⟨0,s,none⟩,⟨r.next,0,XM s⟩,[r.next]):=by rw [Tr.wr];simp
  have ec:(Tr.mk 0 0 .zero s k).cnt=1:=by rw [Tr.cnt,Tr.cntO_getD,hk];rfl
  rw [ec] at hc;rw [e,ec];have hx:NdOk ⟨0,s,none⟩:=.inl ⟨rfl,h1,h2,rfl⟩
  cases ha with
  | kept h0=>exact absurd rfl h0
  | leaf =>
   have hρ:ρ rx=⟨0,0,XM s⟩:=hR (rx,⟨0,0,XM s⟩) (by simp)
   refine ⟨ZN0 ρ rx r.next,.cons (by omega) hx (fun k hk=>by simp [Q9,Nd.ks] at hk) .nil,?_,fun k hk=>?_,.one ho (by omega) hg hx (fun k hk=>by simp [Nd.ks] at hk) (fun k hk=>by simp [Nd.ks] at hk),⟨(ZNy s k).symm,rfl,⟨(⟨0,s,none⟩:Nd).copy,?_,hx.copy,rfl,?_⟩,?_⟩⟩
   ·simp only [ZN0,if_true,hρ];rfl
   ·simp only [jC,List.map_nil,List.mem_singleton] at hk
    simp only [ZN0,if_neg hk]
   ·rw [ZF3 ho (by omega),if_pos rfl]
   ·rw [ZNy];rfl
   ·show Je _ 0 r.next=_
    rw [Je,ZF3 ho (by omega),if_pos rfl,Tr.txt,if_pos rfl,Tr.txtO_getD,hk]
    simp [Tr.txtL,Nd.copy]
 | @inner h l hh h2 h4 hl hb hv ih =>
  intro hb2 r ho hg hE hc rx its R ρ ha hR hnd
  have eb:(Tr.mk 0 (h+1) .zero [] (some l)).bytes=Tr.bytesL l:=by rw [Tr.bytes,Tr.bytesO];simp [Mea.zero]
  have hbs:∀ u∈l,u.bytes<=65536:=fun u hu=>by
   obtain ⟨i,hi,rfl⟩:=List.getElem_of_mem hu
   have h3:Tr.bytesL l=Tr.bytesL (l.take i)+(l[i].bytes+Tr.bytesL (l.drop (i+1))):=by
    conv=>lhs;rw [<- List.take_append_drop (i+1) l,Zb (jE hi),Tr.bytesL_append,Tr.bytesL_append]
    simp [Tr.bytesL];omega
   have n1:=Tr.bytesL_nonneg (l:=l.take i) (fun t ht=>by have:=(hv t (List.mem_of_mem_take ht)).pos.2;omega)
   have n2:=Tr.bytesL_nonneg (l:=l.drop (i+1)) (fun t ht=>by have:=(hv t (List.mem_of_mem_drop ht)).pos.2;omega)
   omega
  have ec:(Tr.mk 0 (h+1) .zero [] (some l)).cnt=Tr.cntL l+1:=by rw [Tr.cnt,Tr.cntO];simp;omega
  rw [ec] at hc
  have hbl:(Qf (l.map Tr.mea)).b=Tr.bytesL l:=Zhs l fun u hu=>(hv u hu).mea_ok.1
  have e:(Tr.mk 0 (h+1) .zero [] (some l)).wr r=((Tr.wrL l r).1.add ⟨h+1,[],some (Tr.wrL l r).2.1⟩,⟨(Tr.wrL l r).1.next,h+1,Qf ((Tr.wrL l r).2.1.map Kid.m)⟩,(Tr.wrL l r).2.2++[(Tr.wrL l r).1.next]):=by
   rw [Tr.wr];simp [Tr.wrO]
  rw [e,ec]
  cases ha with
  | kept h0=>exact absurd rfl h0
  | @inner _ _ _ rs i1 R1 hal hn1 hx1 =>
   obtain ⟨ρ1,a1,a2,a3,a4,a5⟩:=ZqD hN l (fun u hu=>⟨hv u hu,hl u hu,fun q=>hb u hu (by rw [<- hl u hu];exact q)⟩) (fun u hu=>ih u hu (hbs u hu)) r ho hg hE (by omega) rs i1 R1 ρ hal (fun p hp=>hR p (by simp [hp])) hn1
   have hρ:ρ1 rx=⟨0,h+1,Qf (l.map Tr.mea)⟩:=by rw [a3 rx hx1];exact hR (rx,⟨0,h+1,Qf (l.map Tr.mea)⟩) (by simp)
   have hn:0<(Tr.wrL l r).1.n:=by have:=a4.n;omega
   generalize hks:(Tr.wrL l r).2.1=ks at *
   generalize (Tr.wrL l r).1=r1 at *
   have hx:NdOk ⟨h+1,[],some ks⟩:=.inr ⟨h,ks,rfl,by omega,by have:=a5.len;omega,by have:=a5.len;omega,fun k hk=>(a5.ok k hk).1,by rw [a5.m,hbl];omega⟩
   have hki:ZQm r1.nodes ⟨h+1,[],some ks⟩:=fun k hk=>by
    obtain ⟨_,_,y,y1,y2,y3,y4⟩:=a5.ok k hk
    exact ⟨y,y1,y2,by show y.h+1=h+1;omega,y4⟩
   have hnd2:Q9 ρ1 (.inn (h+1) rs)=⟨h+1,[],some ks⟩:=by rw [Q9,a2]
   have hrun:RunOk [⟨rx,.inn (h+1) rs⟩] r1 ρ1 (r1.add ⟨h+1,[],some ks⟩) (ZN0 ρ1 rx r1.next) [r1.next]:=by
    have:=RunOk.cons (it:=⟨rx,.inn (h+1) rs⟩) (ρ:=ρ1) hn (by rw [hnd2];exact hx) (by rw [hnd2];exact hki) .nil
    rw [hnd2] at this;exact this
   refine ⟨ZN0 ρ1 rx r1.next,a1.append hrun,?_,fun k hk=>?_,a4.trans (.one a4.ok hn a4.good hx hki (fun k hk=>(a5.ok k hk).2.1)),⟨?_,rfl,⟨(⟨h+1,[],some ks⟩:Nd).copy,?_,hx.copy,rfl,?_⟩,?_⟩⟩
   ·simp only [ZN0,if_true,hρ,Ro.wr,a5.m]
   ·rw [List.map_append,List.mem_append,not_or] at hk
    have:k≠rx:=fun q=>hk.2 (by simp [q])
    simp only [ZN0,if_neg this];exact a3 k hk.1
   ·rw [ZeD]
    show Qf (ks.map Kid.m)=_
    rw [a5.m]
   ·rw [ZF3 a4.ok hn,if_pos rfl]
   ·rw [ZeD,<- a5.m];rfl
   ·show Je _ (h+1) r1.next=_
    rw [Je,ZF3 a4.ok hn,if_pos rfl,Tr.txt,if_pos rfl,Tr.txtO,<- a5.txt]
    show (ks.flatMap fun k=>Je (r1.add _).nodes h k.at_)=_
    have key:∀ m:List Kid,(∀ k∈m,k∈ks)->(m.flatMap fun k=>Je (r1.add ⟨h+1,[],some ks⟩).nodes h k.at_)=m.flatMap fun k=>Je r1.nodes h k.at_:=by
     intro m
     induction m with
     | nil=>intro _;rfl
     | cons k m ih2 =>
      intro q
      obtain ⟨_,_,y,y1,y2,y3,y4⟩:=a5.ok k (q k (by simp))
      rw [List.flatMap_cons,List.flatMap_cons,ZJH a4.good (ZUS a4.ok hn _) h k.at_ y y1 y3,ih2 (fun w hw=>q w (by simp [hw]))]
    exact key ks fun _ h=>h
set_option maxHeartbeats 8000000
theorem ClsOk.get {n ip:Nat} {F:List (Nat × Blk)} {cs:List AV} {is:List It} (h:ClsOk n ip F cs is):∀ {j:Nat} {it:It},is[j]?=some it->∃ c,cs[j]?=some c/\ClOk n ip F c it:=by
 induction h with
 | nil=>intro j it hj;simp at hj
 | cons hc ht ih =>
  intro j it hj
  cases j with
  | zero =>
   simp only [List.getElem?_cons_zero,oJ] at hj;subst hj;exact ⟨_,rfl,hc⟩
  | succ j=>exact ih hj
def TdOk (st:St) (n tx ver j:Nat) (cls:List AV) (td:AV):Prop:=(cls=[]/\td=.nils)\/(cls≠[]/\td=.ref n tx ver j (cls.length-j)/\st.get n tx=some (.arr 1 ver cls))
structure PenS (st:St) (n ip tx ver la b:Nat) (cls:List AV) (its:List It) (F:List (Nat × Blk)) (keys:List Nat) (rx:Nat) (ρ:Nat->Ro) (j:Nat):Prop where
 wr:st.wr n
 pen:∃ td,st.get n ip=some (.arr 3 0 [.agg [.ptr la (b+5) 0 0 0,td,.ptr n rx 0 0 0]])/\TdOk st n tx ver j cls td
 cl:ClsOk n ip F cls its
 fx:∀ p∈F,st.get n p.1=some p.2
 rts:∀ k∈keys,st.get n k=some (.arr 5 0 [(ρ k).av])
 key:∀ it∈its,it.rx∈keys/\∀ k∈Zht it.c,k∈keys
 rk:rx∈keys
 s1:∀ k∈keys,k≠ip/\k≠tx
 s2:tx≠ip
 s3:∀ p∈F,p.1∉keys/\p.1≠ip/\p.1≠tx
 ar:∀ i,i=ip\/(cls≠[]/\i=tx)\/i∈keys\/(∃ p∈F,i=p.1)->¬ (n=la/\b<=i/\i<=b+5)
 len:cls.length<1000000
 jl:j<=cls.length
theorem Zpb {st:St} {n ip tx ver la b:Nat} {cls:List AV} {its:List It} {F:List (Nat × Blk)} {keys:List Nat} {rx:Nat} {ρ:Nat->Ro} {j:Nat} (h:PenS st n ip tx ver la b cls its F keys rx ρ j) (hj:j=cls.length):S Tb ZBN [.ptr n ip 0 0 0] st=some (.tup [(ρ rx).av,.int .i64 0],st):=by
 obtain ⟨td,h1,h2⟩:=h.pen;have h3:=h.rts rx h.rk
 refine QJ rfl (fun A hA=>?_)
 have g1:=fun L=>ZS hA (ro:=false) (L:=L) h1
 have g3:=fun L=>ZS hA (ro:=false) (L:=L) h3
 unfold Ro.av at g3 ⊢
 rcases h2 with ⟨_,rfl⟩|⟨_,rfl,_⟩
 all_goals repeat' (first|refine ZE ?_|refine ZD ?_|refine ZF rfl ?_|refine ZU rfl rfl ?_|refine ZB rfl ?_|refine ZC ?_|refine Z7 rfl rfl ?_|refine Qd rfl ?_|refine J7 rfl ?_|(refine Qe rfl rfl (fun _=>?_) (fun _=>?_)<;>try (exfalso;omega))|refine ZG rfl ?_|refine JO rfl rfl rfl rfl ?_|refine Ze rfl rfl rfl ?_|refine Zr rfl rfl rfl rfl rfl rfl ?_|refine Z9 rfl (g1 _) rfl rfl ?_|refine Z9 rfl (g3 _) rfl rfl ?_|refine ZI ?_|refine ZQ ?_|refine ZL ?_)
 all_goals try (exfalso;omega)
 all_goals refine X5 hA (by first|exact .inl rfl|exact .inr rfl) rfl rfl rfl rfl rfl ?_
 all_goals rfl
def ZF5 (st:St) (n ip tx ver la b:Nat) (len:Nat) (rx:Nat) (r':AR) (k:Nat) (ro:Ro) (j:Nat):St :=
 ((Qb st la b r').upd n k (.arr 5 0 [ro.av])).upd n ip (.arr 3 0 [.agg [.ptr la (b+5) 0 0 0,.ref n tx ver (j+1) (len-j-1),.ptr n rx 0 0 0]])
theorem PenS.step {st:St} {n ip tx ver la b:Nat} {cls:List AV} {its:List It} {F:List (Nat × Blk)} {keys:List Nat} {rx:Nat} {ρ:Nat->Ro} {j:Nat} (h:PenS st n ip tx ver la b cls its F keys rx ρ j) {r:AR} (hA:Has st la b r) (ho:AROk r) (hn:0<r.n) {it:It} (hj:its[j]?=some it)
 (hx:NdOk (Q9 ρ it.c)) (hk:ZQm r.nodes (Q9 ρ it.c)) :
 S Tb Xh [.ptr n ip 0 0 0] st=some (.tup [.int .u64 r.next,.bool (decide (cls.length=j+1)),.int .i64 0],ZF5 st n ip tx ver la b cls.length rx (r.add (Q9 ρ it.c)) it.rx ((ρ it.rx).wr r.next) j) /\
 PenS (ZF5 st n ip tx ver la b cls.length rx (r.add (Q9 ρ it.c)) it.rx ((ρ it.rx).wr r.next) j) n ip tx ver la b cls its F keys rx (ZN0 ρ it.rx r.next) (j+1) /\
 Has (ZF5 st n ip tx ver la b cls.length rx (r.add (Q9 ρ it.c)) it.rx ((ρ it.rx).wr r.next) j) la b (r.add (Q9 ρ it.c)):=by
 obtain ⟨td,h1,h2⟩:=h.pen;obtain ⟨cl,c1,c2⟩:=h.cl.get hj;have hjl:=(List.getElem?_eq_some_iff.1 c1).1;have hm:=jM hj;obtain ⟨k1,k2⟩:=h.key it hm;have hrx:=h.rts it.rx k1;have hrp:=h.s1 it.rx k1
 have hne:cls≠[]:=fun q=>by rw [q] at c1;simp at c1
 rcases h2 with ⟨q,_⟩|⟨_,rfl,h3⟩
 ·exact absurd q hne
 have hS:=Zpa (it:=it) (ρ:=ρ) (b0:=0) (b1:=0) (b2:=0) (cv:=.nils) h3 c1 c2 h.len h1 h.fx (fun k hk=>h.rts k (k2 k hk)) hrx hA ho hn hx hk h.wr (fun i hi=>h.ar i (by
  rcases hi with rfl|rfl|rfl|q
  ·exact .inr (.inr (.inl k1))
  ·exact .inl rfl
  ·exact .inr (.inl ⟨hne,rfl⟩)
  ·exact .inr (.inr (.inr q)))) ⟨hrp.1,hrp.2,h.s2⟩
 have a1:∀ i,¬ (n=la/\b<=i/\i<=b+5)->(Qb st la b (r.add (Q9 ρ it.c))).get n i=st.get n i:=fun i hi=>hA.out _ hi
 have g1:∀ l' i',((Qb st la b (r.add (Q9 ρ it.c))).upd n it.rx (.arr 5 0 [((ρ it.rx).wr r.next).av])).get l' i'=if l'=n/\i'=it.rx then some (.arr 5 0 [((ρ it.rx).wr r.next).av]) else (Qb st la b (r.add (Q9 ρ it.c))).get l' i' :=
  fun l' i'=>St.get_upd ((a1 _ (h.ar _ (.inr (.inr (.inl k1))))).trans hrx) rfl
 have hp0:((Qb st la b (r.add (Q9 ρ it.c))).upd n it.rx (.arr 5 0 [((ρ it.rx).wr r.next).av])).get n ip=_:=(g1 n ip).trans ((if_neg (fun q=>hrp.1 q.2.symm)).trans ((a1 _ (h.ar _ (.inl rfl))).trans h1))
 have g2:∀ l' i',(ZF5 st n ip tx ver la b cls.length rx (r.add (Q9 ρ it.c)) it.rx ((ρ it.rx).wr r.next) j).get l' i'=if l'=n/\i'=ip then some (.arr 3 0 [.agg [.ptr la (b+5) 0 0 0,.ref n tx ver (j+1) (cls.length-j-1),.ptr n rx 0 0 0]]) else if l'=n/\i'=it.rx then some (.arr 5 0 [((ρ it.rx).wr r.next).av]) else (Qb st la b (r.add (Q9 ρ it.c))).get l' i':=fun l' i'=>by
  rw [ZF5,St.get_upd hp0 rfl,g1]
 have hw1:(Qb st la b (r.add (Q9 ρ it.c))).wr n:=ZNj hA.cl.wr h.wr;have hwl:(Qb st la b (r.add (Q9 ρ it.c))).wr la:=(hA.put _).wr
 have hw2:∀ {l:Nat},(Qb st la b (r.add (Q9 ρ it.c))).wr l->(ZF5 st n ip tx ver la b cls.length rx (r.add (Q9 ρ it.c)) it.rx ((ρ it.rx).wr r.next) j).wr l:=fun w=>St.wr_upd (St.wr_upd hw1 hw1) (St.wr_upd hw1 w)
 refine ⟨hS,⟨hw2 hw1,⟨_,by rw [g2,if_pos ⟨rfl,rfl⟩,Nat.sub_sub],.inr ⟨hne,rfl,?_⟩⟩,h.cl,fun p hp=>?_,fun k hk=>?_,h.key,h.rk,h.s1,h.s2,h.s3,h.ar,h.len,hjl⟩,?_⟩
 ·rw [g2,if_neg (fun q=>h.s2 q.2),if_neg (fun q=>hrp.2 q.2.symm),a1 _ (h.ar _ (.inr (.inl ⟨hne,rfl⟩)))];exact h3
 ·obtain ⟨q1,q2,q3⟩:=h.s3 p hp
  rw [g2,if_neg (fun q=>q2 q.2),if_neg (fun q=>q1 (by rw [q.2];exact k1)),a1 _ (h.ar _ (.inr (.inr (.inr ⟨p,hp,rfl⟩))))];exact h.fx p hp
 ·obtain ⟨q1,q2⟩:=h.s1 k hk
  rw [g2,if_neg (fun q=>q1 q.2)]
  unfold ZN0
  by_cases e:k=it.rx
  ·subst e;rw [if_pos ⟨rfl,rfl⟩,if_pos rfl]
  ·rw [if_neg (fun q=>e q.2),if_neg e,a1 _ (h.ar _ (.inr (.inr (.inl hk))))];exact h.rts k hk
 ·have hP:=hA.put (r.add (Q9 ρ it.c))
  have n1:∀ i,b<=i->i<=b+5->¬ (la=n/\i=ip)/\¬ (la=n/\i=it.rx):=fun i i1 i2=>⟨fun q=>h.ar ip (.inl rfl) ⟨q.1.symm,by omega,by omega⟩,fun q=>h.ar it.rx (.inr (.inr (.inl k1))) ⟨q.1.symm,by omega,by omega⟩⟩
  have gg:∀ i,b<=i->i<=b+5->(ZF5 st n ip tx ver la b cls.length rx (r.add (Q9 ρ it.c)) it.rx ((ρ it.rx).wr r.next) j).get la i=(Qb st la b (r.add (Q9 ρ it.c))).get la i:=fun i i1 i2=>by
   rw [g2,if_neg (n1 i i1 i2).1,if_neg (n1 i i1 i2).2]
  exact ⟨hw2 hwl,(gg _ (by omega) (by omega)).trans hP.h0,(gg _ (by omega) (by omega)).trans hP.h1,(gg _ (by omega) (by omega)).trans hP.h2,(gg _ (by omega) (by omega)).trans hP.h3,(gg _ (by omega) (by omega)).trans hP.h4,(gg _ (by omega) (by omega)).trans hP.h5⟩
theorem ZEi {A:List (Bool × List Blk)} {ro:Bool} {L:List Blk} {lv ix:Nat} {b:Blk} (T:List Blk) (h:St.get ⟨A,ro,L⟩ lv ix=some b):St.get ⟨A,ro,L++T⟩ lv ix=some b:=by
 unfold St.get at h ⊢
 simp only at h ⊢
 split
 ·rename_i q
  rw [if_pos q] at h;have h2:=(ZBo h).1;rw [jL (List.getElem?_eq_some_iff.1 h2).1];exact h
 ·rename_i q
  rw [if_neg q] at h;exact h
theorem HasR.app {A:List (Bool × List Blk)} {ro:Bool} {L:List Blk} {la b:Nat} {r:AR} (h:HasR ⟨A,ro,L⟩ la b r) (T:List Blk):HasR ⟨A,ro,L++T⟩ la b r :=
 ⟨ZEi T h.h0,ZEi T h.h1,ZEi T h.h2,ZEi T h.h3,ZEi T h.h4,ZEi T h.h5⟩
mutual
theorem AddT.keys:∀ {t:Tr} {rx:Nat} {its:List It} {R:List (Nat × Ro)},AddT t rx its R->rx∈R.map Prod.fst/\∀ it∈its,it.rx∈R.map Prod.fst/\∀ k∈Zht it.c,k∈R.map Prod.fst
 | _,_,_,_,.kept h0=>⟨by simp,fun it h=>by simp at h⟩
 | _,_,_,_,.leaf=>⟨by simp,fun it h=>by simp only [List.mem_singleton] at h;subst h;exact ⟨by simp,fun k hk=>by simp [Zht] at hk⟩⟩
 | _,_,_,_,.inner hl hn hx=>by
  obtain ⟨h1,h2⟩:=AddL.keys hl
  refine ⟨by simp,fun it h=>?_⟩
  rcases List.mem_append.1 h with q|q
  ·obtain ⟨a1,a2⟩:=h2 it q
   exact ⟨by rw [List.map_append];exact List.mem_append_left _ a1,fun k hk=>by rw [List.map_append];exact List.mem_append_left _ (a2 k hk)⟩
  ·simp only [List.mem_singleton] at q
   subst q
   exact ⟨by simp,fun k hk=>by rw [List.map_append];exact List.mem_append_left _ (h1 k hk)⟩
theorem AddL.keys:∀ {l:List Tr} {rs:List Nat} {its:List It} {R:List (Nat × Ro)},AddL l rs its R->(∀ r∈rs,r∈R.map Prod.fst)/\∀ it∈its,it.rx∈R.map Prod.fst/\∀ k∈Zht it.c,k∈R.map Prod.fst
 | _,_,_,_,.nil=>⟨fun r h=>by simp at h,fun it h=>by simp at h⟩
 | _,_,_,_,.cons ht hl=>by
  obtain ⟨a1,a2⟩:=ht.keys;obtain ⟨b1,b2⟩:=hl.keys
  refine ⟨fun r h=>?_,fun it h=>?_⟩
  ·rw [List.map_append]
   rcases List.mem_cons.1 h with rfl|q
   ·exact List.mem_append_left _ a1
   ·exact List.mem_append_right _ (b1 r q)
  ·rw [List.map_append]
   rcases List.mem_append.1 h with q|q
   ·exact ⟨List.mem_append_left _ (a2 it q).1,fun k hk=>List.mem_append_left _ ((a2 it q).2 k hk)⟩
   ·exact ⟨List.mem_append_right _ (b2 it q).1,fun k hk=>List.mem_append_right _ ((b2 it q).2 k hk)⟩
end
def Zpc (R:List (Nat × Ro)) (k:Nat):Ro:=((R.find? fun p=>p.1 == k).map Prod.snd).getD .zero
theorem ZeE:∀ {R:List (Nat × Ro)},(R.map Prod.fst).Nodup->∀ p∈R,Zpc R p.1=p.2
 | [],_,p,hp=>by simp at hp
 | q::R,hn,p,hp=>by
  rw [jC,List.nodup_cons] at hn;unfold Zpc;rw [List.find?_cons]
  rcases List.mem_cons.1 hp with rfl|w
  ·simp
  ·have:q.1≠p.1:=fun e=>hn.1 (by rw [e];exact List.mem_map.2 ⟨p,w,rfl⟩)
   rw [show (q.1 == p.1)=false by simp [this]]
   exact ZeE hn.2 p w
def PI (t:Tr) (its:List It) (rx:Nat) (ρ:Nat->Ro):Prop:=(IsEmpty t/\its=[]/\ρ rx=.zero)\/(∃ N,Val N t)/\∃ R,AddT t rx its R/\(∀ p∈R,ρ p.1=p.2)/\(R.map Prod.fst).Nodup
def nw (t:Tr):Nat:=if t.old=0/\t.h=0/\t.text=[] then 0 else t.cnt
theorem ZF6 {N:ZP} {t:Tr} (hv:Val N t):nw t=t.cnt:=by
 unfold nw
 cases hv with
 | kept h0=>rw [if_neg];simp [Tr.old,h0]
 | leaf h1=>rw [if_neg];rintro ⟨_,_,q⟩;simp only [Tr.text] at q;rw [q] at h1;simp at h1
 | inner=>rw [if_neg];simp [Tr.h]
structure Begun (A:List (Bool × List Blk)) (L L2:List Blk) (la b:Nat) (t:Tr) (tx ver:Nat) (cs:List AV) (its:List It) (F:List (Nat × Blk)) (keys:List Nat) (rx:Nat) (ρ:Nat->Ro):Prop where
 ps:PenS ⟨A,false,L2⟩ A.length (L.length+1) tx ver la b cs its F keys rx ρ 0
 len:L.length+2<=L2.length
 old:∀ i,i<L.length->L2[i]?=L[i]?
 klo:∀ k∈keys,L.length+2<=k
 flo:∀ p∈F,L.length+2<=p.1
 tlo:cs≠[]->L.length+2<=tx
 pi:PI t its rx ρ
theorem Zj7 {N:ZP} {A:List (Bool × List Blk)} {L:List Blk} {la b:Nat} {r:AR} (hA:HasR ⟨A,false,L⟩ la b r) (hN:r.n<=r.blk.length) (h16:r.states.length<=16384) (h6:r.n<65536) {t:Tr} (hv:Val r.nodes t) (hb:t.bytes<=65536) (hn:t.cnt<=r.n) :
 ∃ L2 tx ver cs its F keys rx ρ,S Tb XJ [.ptr la (b+5) 0 0 0,t.av] ⟨A,false,L⟩=some (.tup [.ptr A.length (L.length+1) 0 0 0,.int .i64 0],⟨A,false,L2⟩)/\Begun A L L2 la b t tx ver cs its F keys rx ρ:=by
 have hCk:=fun T=>ZQf (hA.app T).rd hv hb
 have hNw:=fun st=>Zo2 hv (by omega) st
 have hSt:=fun T=>ZeB (hA.app T) hN h16 h6
 unfold AR.statsAV at hSt;obtain ⟨T,hT⟩:∃ T:List Blk,T=[.arr 7 0 [t.av],.arr 3 0 [.agg [.ptr la (b+5) 0 0 0,.nils,.nilptr]]]:=⟨_,rfl⟩
 have hTl:T.length=2:=by rw [hT];rfl
 have hip:(L++T)[L.length+1]?=some (.arr 3 0 [.agg [.ptr la (b+5) 0 0 0,.nils,.nilptr]]):=by rw [Qx,hT];rfl
 have hP:Pen A (L++T) (L.length+1) (.ptr la (b+5) 0 0 0) .nils []:=⟨⟨_,hip⟩,.inl ⟨rfl,rfl⟩⟩
 obtain ⟨L1,td1,rx,its,cs,R,F,hS,ha⟩:=ZqC hv hb hP (by simp;omega)
 obtain ⟨⟨rp,p1⟩,p2⟩:=ha.pen;rw [lE] at p2;have hl1:=ha.frm.len;rw [lL,hTl] at hl1;have hlt1:L.length+1<L1.length:=(List.getElem?_eq_some_iff.1 p1).1
 have hkl:∀ k∈R.map Prod.fst,L.length+2<=k:=fun k hk=>by
  obtain ⟨p,hp,rfl⟩:=List.mem_map.1 hk
  have:=ha.rlo p hp
  rwa [lL,hTl] at this
 have hfl:∀ p∈F,L.length+2<=p.1:=fun p hp=>by
  have:=ha.flo p hp
  rwa [lL,hTl] at this
 have hg:∀ i,i≠L.length+1->∀ B,(L1.set (L.length+1) B)[i]?=L1[i]?:=fun i hi B=>jS (fun q=>hi q.symm)
 obtain ⟨q1,q2⟩:=ha.tr.keys
 have hbl:la=A.length->b+5<L.length:=fun e=>by
  have:=hA.h5
  subst e;rw [St.get_cur] at this;exact (List.getElem?_eq_some_iff.1 (ZBo this).1).1
 -- where the list lies
 obtain ⟨tx,ver,t1,t2,t3⟩:∃ tx ver,(cs=[]/\td1=.nils/\tx=L.length\/cs≠[]/\td1=.ref A.length tx ver 0 cs.length/\L1[tx]?=some (.arr 1 ver cs)/\L.length+2<=tx/\YP (L.length+1) td1 tx)/\tx≠L.length+1/\(∀ k,L.length+2<=k->¬ YP (L.length+1) td1 k->k≠tx):=by
  rcases p2 with ⟨e1,e2⟩|⟨tx,ver,e1,e2,e3,e4⟩
  ·exact ⟨L.length,0,.inl ⟨e2,e1,rfl⟩,by omega,fun k hk _=>by omega⟩
  ·have hX:YP (L.length+1) td1 tx:=.inr ⟨_,_,_,_,e1⟩
   refine ⟨tx,ver,.inr ⟨e4,e1,e2,?_,hX⟩,e3,fun k hk hn q=>hn (by rw [q];exact hX)⟩
   rcases ha.frm.own tx hX with w|w
   ·rcases w with w|⟨_,_,_,_,w⟩
    ·exact absurd w e3
    ·simp at w
   ·rwa [lL,hTl] at w
 refine ⟨L1.set (L.length+1) (.arr 3 0 [.agg [.ptr la (b+5) 0 0 0,td1,.ptr A.length rx 0 0 0]]),tx,ver,cs,its,F,R.map Prod.fst,rx,Zpc R,ZAg rfl ?_,⟨⟨by simp [St.wr],⟨td1,by rw [St.get_cur,List.getElem?_set_self hlt1];rfl,?_⟩,ha.cl,?_,?_,q2,q1,?_,t2,?_,?_,?_,Nat.zero_le _⟩,by rw [List.length_set];omega,?_,hkl,hfl,fun hc=>(by
  rcases t1 with ⟨w,_⟩|⟨_,_,_,w,_⟩
  ·exact absurd w hc
  ·exact w),.inr ⟨⟨_,hv⟩,R,ha.tr,ZeE ha.nd,ha.nd⟩⟩⟩
 ·have e0:(⟨A,false,L⟩:St)=⟨A,false,L++[]⟩:=by rw [lN]
  rw [e0];rw [hT] at hS
  repeat' (first|refine Yv rfl (Z2 _) (QB _) rfl rfl ?_|refine Yv rfl rfl rfl rfl rfl ?_|refine ZAR rfl rfl rfl (Zk _) ?_|refine ZE ?_|refine ZD ?_|refine ZF rfl ?_|refine ZU rfl rfl ?_|refine ZB rfl ?_|refine ZC ?_|refine ZVH (agg:=false) rfl rfl ?_|refine Z7 rfl rfl ?_|(refine Qe rfl rfl (fun _=>?_) (fun _=>?_)<;>try (exfalso;omega))|(refine Zl rfl rfl (fun _=>?_) (fun _=>?_)<;>try (exfalso;omega))|refine ZG rfl ?_|refine Zt rfl rfl rfl ?_|refine ZA rfl rfl (by first|rfl|(simp only [lE,lN,lC,ZZ,ZW,ZX];first|done|rfl)) (hCk _) ?_|refine ZA rfl rfl (by first|rfl|(simp only [lE,lN,lC,ZZ,ZW,ZX];first|done|rfl)) (hNw _) ?_|refine ZA rfl rfl (by first|rfl|(simp only [lE,lN,lC,ZZ,ZW,ZX];first|done|rfl)) (hSt _) ?_|refine ZA rfl rfl (by first|rfl|(simp only [lE,lN,lC,ZZ,ZW,ZX];first|done|rfl)) (hS) ?_|refine ZI ?_)
  all_goals try (exfalso;omega)
  refine Q7 p1 rfl rfl rfl ?_ rfl ?_
  ·simp only [ZY,QD,if_pos (Nat.lt_succ_self _)]
  repeat' (first|refine ZE ?_|refine ZD ?_|refine ZF rfl ?_|refine ZB rfl ?_|refine ZC ?_|refine ZQ ?_|refine ZL ?_)
  refine (Yj (.inr rfl) rfl rfl rfl rfl).trans ?_;rfl
 ·rcases t1 with ⟨e1,e2,e3⟩|⟨e0,e1,e2,e3⟩
  ·exact .inl ⟨e1,e2⟩
  ·exact .inr ⟨e0,e1,by rw [St.get_cur,hg _ t2,e2];rfl⟩
 ·intro p hp
  obtain ⟨f1,f2⟩:=ha.fx p hp;obtain ⟨w,v,es,f3,f4⟩:=ha.fw p hp
  have:p.1≠L.length+1:=fun q=>f2 (.inl q)
  rw [St.get_cur,hg _ this,f1,f3];rfl
 ·intro k hk
  obtain ⟨p,hp,rfl⟩:=List.mem_map.1 hk;obtain ⟨f1,f2⟩:=ha.rts.get hp
  have:p.1≠L.length+1:=fun q=>f2 (.inl q)
  rw [St.get_cur,hg _ this,f1,ZeE ha.nd p hp];rfl
 ·intro k hk
  have h1:=hkl k hk;obtain ⟨p,hp,rfl⟩:=List.mem_map.1 hk
  exact ⟨by omega,t3 _ h1 (ha.rts.get hp).2⟩
 ·intro p hp
  obtain ⟨f1,f2⟩:=ha.fx p hp;obtain ⟨w,v,es,f3,f4⟩:=ha.fw p hp;have h1:=hfl p hp
  refine ⟨fun q=>?_,by omega,t3 _ h1 f2⟩
  obtain ⟨u,hu,e⟩:=List.mem_map.1 q;have f5:=(ha.rts.get hu).1;rw [e,f1,f3] at f5;simp only [oJ,Blk.arr.injEq] at f5;exact f4 f5.1
 ·intro i hi ⟨e1,e2,e3⟩
  have:=hbl e1.symm
  rcases hi with rfl|⟨c1,rfl⟩|q|⟨p,hp,rfl⟩
  ·omega
  ·rcases t1 with ⟨w,_⟩|⟨_,_,_,w,_⟩
   ·exact c1 w
   ·omega
  ·have:=hkl i q;omega
  ·have:=hfl p hp;omega
 ·have h1:=ha.cl.len
  have h2:=ha.tr.cnt;omega
 ·intro i hi
  rw [hg i (by omega),ha.frm.old i (by rw [lL];omega) (fun q=>?_),jL hi]
  rcases q with q|⟨_,_,_,_,q⟩
  ·omega
  ·simp at q
theorem ZeF {A:List (Bool × List Blk)} {ro:Bool} {L:List Blk} {i:Nat} {b:Blk} (h:L[i]?=some b) (hv:vis (some b)=some b):St.get ⟨A,ro,L⟩ A.length i=some b:=by rw [St.get_cur,h,hv]
theorem Zj8 {t:Tr} (ht:IsEmpty t) (st:St):S Tb ZAi [t.av] st=some (.int .i64 (0:Nat),st) :=
 ZQl (c:=1) ht.ks (fun st=>ZCj t ht st) st
theorem ZgB {A:List (Bool × List Blk)} {L:List Blk} {la b:Nat} {r:AR} (hA:HasR ⟨A,false,L⟩ la b r) (hN:r.n<=r.blk.length) (h16:r.states.length<=16384) (h6:r.n<65536) {t:Tr} (ht:IsEmpty t) :
 ∃ L2 tx ver cs its F keys rx ρ,S Tb XJ [.ptr la (b+5) 0 0 0,t.av] ⟨A,false,L⟩=some (.tup [.ptr A.length (L.length+1) 0 0 0,.int .i64 0],⟨A,false,L2⟩)/\Begun A L L2 la b t tx ver cs its F keys rx ρ:=by
 have hCk:=fun T=>ZRD (st:=⟨A,false,L++T⟩) (lv:=la) (ix:=b+5) ht
 have hNw:=fun st=>Zj8 ht st
 have hSt:=fun T=>ZeB (hA.app T) hN h16 h6
 unfold AR.statsAV at hSt
 have hbl:la=A.length->b+5<L.length:=fun e=>by
  have:=hA.h5
  subst e;rw [St.get_cur] at this;exact (List.getElem?_eq_some_iff.1 (ZBo this).1).1
 obtain ⟨T,hT⟩:∃ T:List Blk,T=[.arr 7 0 [t.av],.arr 3 0 [.agg [.ptr la (b+5) 0 0 0,.nils,.nilptr]]]:=⟨_,rfl⟩
 have hadd:S Tb Qt [.ptr A.length (L.length+1) 0 0 0,t.av] ⟨A,false,L++T⟩=some (.ptr A.length ((L++T).length+1) 0 0 0,⟨A,false,(L++T)++[.arr 7 0 [t.av],.arr 5 0 [Ro.zero.av]]⟩):=by
  refine ZAg rfl ?_
  have e0:(⟨A,false,L++T⟩:St)=⟨A,false,(L++T)++[]⟩:=by rw [lN]
  rw [e0];generalize L++T=L0;obtain ⟨o,h,m,s,k⟩:=t;obtain ⟨h1,h2,h3,h4,h5⟩:=ht;simp only [Tr.old,Tr.h,Tr.m,Tr.text,Tr.ks] at h1 h2 h3 h4 h5;subst h1 h2 h3 h4
  obtain ⟨ka,hka,hka2⟩:∃ ka,Tr.avO k=ka/\(ka=.nils\/ka=.lit []):=by
   cases k with
   | none=>exact ⟨_,rfl,.inl rfl⟩
   | some l=>have:l=[]:=h5;subst this;exact ⟨_,rfl,.inr rfl⟩
  simp only [Tr.av,Mea.zero,hka] at *
  rcases hka2 with rfl|rfl
  all_goals repeat' (first|refine Yv rfl rfl rfl rfl rfl ?_|refine ZAR rfl rfl rfl rfl ?_|refine ZE ?_|refine ZD ?_|refine ZF rfl ?_|refine ZU rfl rfl ?_|refine QE rfl ?_|refine Zn rfl rfl rfl rfl ?_|refine ZB rfl ?_|refine ZC ?_|refine ZBa rfl rfl ?_|refine J7 rfl ?_|(refine Zp rfl rfl (fun _=>?_) (fun _=>?_)<;>try (exfalso;omega))|(refine Zl rfl rfl (fun _=>?_) (fun _=>?_)<;>try (exfalso;omega))|(refine YW rfl rfl (fun _=>?_) (fun _=>?_)<;>try contradiction)|refine ZV rfl ?_|refine Zt rfl rfl rfl ?_|refine ZI ?_|refine ZQ ?_|refine ZJ ?_|refine ZL ?_|refine Zy ?_)
  all_goals try contradiction
  all_goals try (exfalso;omega)
  all_goals refine (Yj (.inr rfl) rfl rfl rfl rfl).trans ?_
  all_goals rfl
 have hTl:T.length=2:=by rw [hT];rfl
 have hl2:(L++T).length=L.length+2:=by rw [lL,hTl]
 rw [hl2] at hadd
 have p1:((L++T)++[Blk.arr 7 0 [t.av],Blk.arr 5 0 [Ro.zero.av]])[L.length+1]?=some (.arr 3 0 [.agg [.ptr la (b+5) 0 0 0,.nils,.nilptr]]):=by
  rw [List.append_assoc,Qx,hT];rfl
 refine ⟨((L++T)++[Blk.arr 7 0 [t.av],Blk.arr 5 0 [Ro.zero.av]]).set (L.length+1) (Blk.arr 3 0 [.agg [.ptr la (b+5) 0 0 0,.nils,.ptr A.length (L.length+3) 0 0 0]]),L.length,0,[],[],[],[L.length+3],L.length+3,fun _=>.zero,ZAg rfl ?_,⟨⟨by simp [St.wr],⟨.nils,?_,.inl ⟨rfl,rfl⟩⟩,.nil,fun p hp=>by simp at hp,fun k hk=>?_,fun it hi=>by simp at hi,by simp,fun k hk=>?_,by omega,fun p hp=>by simp at hp,fun i hi=>?_,by simp,Nat.zero_le _⟩,by simp,fun i hi=>?_,fun k hk=>?_,fun p hp=>by simp at hp,fun hc=>absurd rfl hc,.inl ⟨ht,rfl,rfl⟩⟩⟩
 ·have e0:(⟨A,false,L⟩:St)=⟨A,false,L++[]⟩:=by rw [lN]
  rw [e0];rw [hT] at hadd p1 ⊢
  repeat' (first|refine Yv rfl (Z2 _) (QB _) rfl rfl ?_|refine Yv rfl rfl rfl rfl rfl ?_|refine ZAR rfl rfl rfl (Zk _) ?_|refine ZE ?_|refine ZD ?_|refine ZF rfl ?_|refine ZU rfl rfl ?_|refine ZB rfl ?_|refine ZC ?_|refine ZVH (agg:=false) rfl rfl ?_|refine Z7 rfl rfl ?_|(refine Qe rfl rfl (fun _=>?_) (fun _=>?_)<;>try (exfalso;omega))|(refine Zl rfl rfl (fun _=>?_) (fun _=>?_)<;>try (exfalso;omega))|refine ZG rfl ?_|refine Zt rfl rfl rfl ?_|refine ZA rfl rfl (by first|rfl|(simp only [lE,lN,lC,ZZ,ZW,ZX];first|done|rfl)) (hCk _) ?_|refine ZA rfl rfl (by first|rfl|(simp only [lE,lN,lC,ZZ,ZW,ZX];first|done|rfl)) (hNw _) ?_|refine ZA rfl rfl (by first|rfl|(simp only [lE,lN,lC,ZZ,ZW,ZX];first|done|rfl)) (hSt _) ?_|refine ZA rfl rfl (by first|rfl|(simp only [lE,lN,lC,ZZ,ZW,ZX];first|done|rfl)) (hadd) ?_|refine ZI ?_)
  all_goals try (exfalso;omega)
  refine Q7 p1 rfl rfl rfl ?_ rfl ?_
  ·simp only [ZY,QD,if_pos (Nat.lt_succ_self _)]
  repeat' (first|refine ZE ?_|refine ZD ?_|refine ZF rfl ?_|refine ZB rfl ?_|refine ZC ?_|refine ZQ ?_|refine ZL ?_)
  refine (Yj (.inr rfl) rfl rfl rfl rfl).trans ?_;rfl
 ·exact ZeF (List.getElem?_set_self (by simp)) rfl
 ·simp only [List.mem_singleton] at hk
  subst hk;refine ZeF ?_ rfl
  rw [jS (by omega),show L.length+3=(L++T).length+1 by rw [hl2],Qx];rfl
 ·simp only [List.mem_singleton] at hk
  omega
 ·rintro ⟨e1,e2,e3⟩
  have:=hbl e1.symm
  rcases hi with rfl|⟨c1,rfl⟩|q|⟨p,hp,rfl⟩
  ·omega
  ·exact c1 rfl
  ·simp only [List.mem_singleton] at q;omega
  ·simp at hp
 ·rw [jS (by omega),List.append_assoc,jL hi]
 ·simp only [List.mem_singleton] at hk
  omega
end Go.Q15
namespace Go.Q15
open Go Go.QAbs
set_option maxRecDepth 100000
set_option maxHeartbeats 8000000
theorem Zj9 {b lv ix:Nat} (st:St) (h:lv<b):ZY QD b st (.map lv ix)=some (.map lv ix,st):=by
 simp only [ZY,QD,if_pos h]
def YD (l:List Nat):List (AV × AV):=l.map fun (h:Nat)=>(AV.int .u64 h,AV.bool true)
theorem ZgC (o:Nat):∀ l:List Nat,ZAz (.int .u64 o) (YD l)=some (if o∈l then some (.bool true) else none)
 | []=>rfl
 | p::l=>by
  rw [YD,jC,ZAz]
  show (Option.bind (if IntKind.u64=IntKind.u64 then some ((o:Int) == (p:Int)) else none) fun b=>if b=true then some (some (AV.bool true)) else ZAz (.int .u64 o) (YD l))=_
  rw [if_pos rfl,oS,ZgC o l]
  by_cases q:o=p
  ·subst q;simp
  ·rw [if_neg (by simp;omega)]
   simp [q]
theorem ZN1 (o:Nat):∀ l:List Nat,o∉l->ZEn (.int .u64 o) (.bool true) (YD l)=some (YD (l++[o]))
 | [],_=>rfl
 | p::l,h=>by
  simp only [List.mem_cons,not_or] at h;rw [YD,jC,ZEn]
  show (Option.bind (if IntKind.u64=IntKind.u64 then some ((o:Int) == (p:Int)) else none) fun b=>if b=true then some ((AV.int .u64 o,AV.bool true)::YD l) else (ZEn (.int .u64 o) (.bool true) (YD l)).map ((AV.int .u64 p,AV.bool true)::·))=_
  rw [if_pos rfl,oS,if_neg (by simp;omega),ZN1 o l h.2]
  rfl
theorem ZF7 {st:St} {lv mx:Nat} {l:List Nat} (hg:st.get lv mx=some (.map (YD l))) (o:Nat):lookV st 0 (.bool false) false (.int .u64 o) (.map lv mx)=some (.bool (decide (o∈l))):=by
 simp only [lookV,ZeX,hg,ZLV,oS,Yg,if_true,ZgC]
 by_cases q:o∈l
 ·simp [q,ZbE]
 ·simp [q,ZbE]
def Zu (h:Nat):AV:=.int .u64 h
theorem ZoT (l:List Nat):Q2 1 (l.map Zu)=true:=by
 induction l with
 | nil=>rfl
 | cons b s ih=>rw [jC,Q2,List.all_cons];exact Bool.and_eq_true_iff.2 ⟨rfl,ih⟩
theorem ZoU (b:Nat) (st:St) (l:List Nat):mapSt (ZY QD b) st (l.map Zu)=some (l.map Zu,st):=by
 induction l with
 | nil=>rfl
 | cons x s ih =>
  rw [jC,mapSt]
  show ((some (Zu x,st)).bind fun r=>(mapSt (ZY QD b) r.2 (s.map Zu)).bind (Yf r.1))=_
  rw [oS,ih];rfl
section
variable {O:Orc} {k:List Fr} {Q:YO} {e:Env} {A:List (Bool × List Blk)} {L:List Blk} {keep:List Nat} {is:List QAbs.PI} {d:Nat}
theorem ZoV {st:St} {s x:Opd} {lv jx ver w bytes:Nat} {es ys:List AV} (hA:A=st.A++[(st.ro,st.L)]) (hwr:st.wr lv) (hg:st.get lv jx=some (.arr w ver es)) (hs:Zf e s=some (.ref lv jx ver 0 es.length)) (hx:Zf e x=some (.lit ys))
 (hw:Q2 w ys=true) (hsl:mapSt (ZY QD (lv+1)) ⟨A,false,L⟩ ys=some (ys,⟨A,false,L⟩)) (hl:es.length+ys.length<4294967296) (hb:bytes<=4096)
 (h:∀ A',A'=(st.upd lv jx (.arr w (ver+1) (es++ys))).A++[((st.upd lv jx (.arr w (ver+1) (es++ys))).ro,(st.upd lv jx (.arr w (ver+1) (es++ys))).L)]->Is O is keep k Q ((d,.ref lv jx (ver+1) 0 (es.length+ys.length))::e) ⟨A',false,L⟩) :
 Is O (⟨some d,none,false,.app w bytes s x⟩::is) keep k Q e ⟨A,false,L⟩:=by
 have hlv:=St.get_le hg;refine Z4 (v:=.ref lv jx (ver+1) 0 (es.length+ys.length)) (st':=St.upd ⟨A,false,L⟩ lv jx (.arr w (ver+1) (es++ys))) ?_ ?_
 ·have hg':=ZS hA (ro:=false) (L:=L) hg
  have hw':=XG hA hlv hwr (ro:=false) (L:=L)
  simp only [Zi,evalPO,ZH hs,ZH hx,elems,oS,JT,hw,if_true,hsl,ZcB,hg',ZKD,true_and,if_pos (show 0+es.length<=es.length/\es.length+ys.length<4294967296/\bytes<=4096 by omega),List.drop_zero]
  rw [List.take_of_length_le (by omega),St.put_upd hw' hg']
  rfl
 ·rw [Jj hA hlv]
  exact h _ rfl
end
namespace Tr
mutual
def kwT:Tr->List Nat->List Nat
 | .mk o _ _ _ k,out=>kwO k (if o≠0/\o∉out then out++[o] else out)
def kwO:Option (List Tr)->List Nat->List Nat
 | none,out=>out
 | some l,out=>kwL l out
def kwL:List Tr->List Nat->List Nat
 | [],out=>out
 | t::l,out=>kwL l (kwT t out)
end
mutual
def siz:Tr->Nat
 | .mk _ _ _ _ k=>1+sizO k
def sizO:Option (List Tr)->Nat
 | none=>0
 | some l=>sizL l
def sizL:List Tr->Nat
 | []=>0
 | t::l=>siz t+sizL l
end
theorem kwL_append:∀ (a b:List Tr) (out:List Nat),kwL (a++b) out=kwL b (kwL a out)
 | [],b,out=>rfl
 | t::a,b,out=>by rw [lC,kwL,kwL,kwL_append a b]
theorem sizL_append:∀ a b,sizL (a++b)=sizL a+sizL b
 | [],b=>by simp [sizL]
 | t::a,b=>by rw [lC,sizL,sizL,sizL_append a b];omega
theorem kwO_getD (k:Option (List Tr)) (out:List Nat):kwO k out=kwL (k.getD []) out:=by cases k<;>rfl
theorem sizO_getD (k:Option (List Tr)):sizO k=sizL (k.getD []):=by cases k<;>rfl
theorem kwT_len (t:Tr):∀ out,(kwT t out).length<=out.length+t.siz:=by
 induction t using Tr.ind with
 | step o h m s k ih =>
  intro out;rw [kwT,siz,kwO_getD,sizO_getD]
  have key:∀ (l:List Tr),(∀ t∈l,∀ out,(kwT t out).length<=out.length+t.siz)->∀ out,(kwL l out).length<=out.length+sizL l:=by
   intro l
   induction l with
   | nil=>intro _ out;simp [kwL,sizL]
   | cons a l ih2 =>
    intro hl out;rw [kwL,sizL]
    have h1:=ih2 (fun t ht=>hl t (by simp [ht])) (kwT a out)
    have h2:=hl a (by simp) out
    omega
  have:=key (k.getD []) ih (if o≠0/\o∉out then out++[o] else out)
  split at this
  ·rename_i q;rw [if_pos q];rw [lL,List.length_singleton] at this;omega
  ·rename_i q;rw [if_neg q];omega
theorem kwL_len:∀ (l:List Tr) (out:List Nat),(kwL l out).length<=out.length+sizL l
 | [],out=>by simp [kwL,sizL]
 | t::l,out=>by
  rw [kwL,sizL];have h1:=kwL_len l (kwT t out);have h2:=kwT_len t out;omega
end Tr
structure KS (st:St) (lv mb mx ob ox wb ver:Nat) (out:List Nat):Prop where
 wr:st.wr lv
 hm:st.get lv mb=some (.arr 1 0 [.map lv mx])
 hmx:st.get lv mx=some (.map (YD out))
 ho:st.get lv ob=some (.arr 1 0 [.ref lv ox ver 0 out.length])
 hox:st.get lv ox=some (.arr 1 ver (out.map Zu))
 hw:st.get lv wb=some (.arr 1 0 [.func (.func Yo) [] [.ptr lv mb 0 0 0,.ptr lv ob 0 0 0,.ptr lv wb 0 0 0]])
 n1:mx≠ox
 n2:mx≠ob
 n3:ox≠ob
 n4:mb≠mx/\mb≠ox/\mb≠ob
 n5:wb≠mx/\wb≠ox/\wb≠ob
def Jf (st:St) (lv mx ob ox ver:Nat) (out:List Nat):St:=((st.upd lv mx (.map (YD out))).upd lv ox (.arr 1 ver (out.map Zu))).upd lv ob (.arr 1 0 [.ref lv ox ver 0 out.length])
theorem KS.get {st:St} {lv mb mx ob ox wb ver:Nat} {out:List Nat} (h:KS st lv mb mx ob ox wb ver out) (v:Nat) (t:List Nat) (l' i':Nat) :
 (Jf st lv mx ob ox v t).get l' i'=if l'=lv/\i'=ob then some (.arr 1 0 [.ref lv ox v 0 t.length]) else if l'=lv/\i'=ox then some (.arr 1 v (t.map Zu)) else if l'=lv/\i'=mx then some (.map (YD t)) else st.get l' i':=by
 have g1:∀ l' i',(st.upd lv mx (.map (YD t))).get l' i'=if l'=lv/\i'=mx then some (.map (YD t)) else st.get l' i':=fun l' i'=>St.get_upd h.hmx rfl
 have b1:(st.upd lv mx (.map (YD t))).get lv ox=some (.arr 1 ver (out.map Zu)):=by rw [g1,if_neg (fun q=>h.n1 q.2.symm)];exact h.hox
 have g2:∀ l' i',((st.upd lv mx (.map (YD t))).upd lv ox (.arr 1 v (t.map Zu))).get l' i'=if l'=lv/\i'=ox then some (.arr 1 v (t.map Zu)) else (st.upd lv mx (.map (YD t))).get l' i':=fun l' i'=>St.get_upd b1 rfl
 have b2:((st.upd lv mx (.map (YD t))).upd lv ox (.arr 1 v (t.map Zu))).get lv ob=some (.arr 1 0 [.ref lv ox ver 0 out.length]):=by rw [g2,if_neg (fun q=>h.n3 q.2.symm),g1,if_neg (fun q=>h.n2 q.2.symm)];exact h.ho
 rw [Jf,St.get_upd b2 rfl,g2,g1]
theorem KS.put {st:St} {lv mb mx ob ox wb ver:Nat} {out:List Nat} (h:KS st lv mb mx ob ox wb ver out) (v:Nat) (t:List Nat):KS (Jf st lv mx ob ox v t) lv mb mx ob ox wb v t:=by
 refine ⟨St.wr_upd (St.wr_upd (St.wr_upd h.wr h.wr) (St.wr_upd h.wr h.wr)) (St.wr_upd (St.wr_upd h.wr h.wr) (St.wr_upd h.wr h.wr)),?_,?_,?_,?_,?_,h.n1,h.n2,h.n3,h.n4,h.n5⟩
 ·rw [h.get,if_neg (fun q=>h.n4.2.2 q.2),if_neg (fun q=>h.n4.2.1 q.2),if_neg (fun q=>h.n4.1 q.2)];exact h.hm
 ·rw [h.get,if_neg (fun q=>h.n2 q.2),if_neg (fun q=>h.n1 q.2),if_pos ⟨rfl,rfl⟩]
 ·rw [h.get,if_pos ⟨rfl,rfl⟩]
 ·rw [h.get,if_neg (fun q=>h.n3 q.2),if_pos ⟨rfl,rfl⟩]
 ·rw [h.get,if_neg (fun q=>h.n5.2.2 q.2),if_neg (fun q=>h.n5.2.1 q.2),if_neg (fun q=>h.n5.1 q.2)];exact h.hw
theorem KS.same {st:St} {lv mb mx ob ox wb ver:Nat} {out:List Nat} (h:KS st lv mb mx ob ox wb ver out):Jf st lv mx ob ox ver out=st:=by
 rw [Jf,upd_same h.hmx,upd_same h.hox,upd_same h.ho]
theorem ZkA {st:St} {lv mx ob ox v1 v2:Nat} {s t:List Nat} (h1:mx≠ox) (h2:mx≠ob) (h3:ox≠ob):Jf (Jf st lv mx ob ox v1 s) lv mx ob ox v2 t=Jf st lv mx ob ox v2 t:=by
 unfold Jf;generalize Blk.map (YD s)=a1;generalize Blk.map (YD t)=a2;generalize Blk.arr 1 v1 (s.map Zu)=b1;generalize Blk.arr 1 v2 (t.map Zu)=b2;generalize Blk.arr 1 0 [AV.ref lv ox v1 0 s.length]=c1;generalize Blk.arr 1 0 [AV.ref lv ox v2 0 t.length]=c2
 rw [ZNq (st:=(st.upd lv mx a1).upd lv ox b1) (fun q=>h2 q.symm),ZNq (st:=st.upd lv mx a1) (fun q=>h1 q.symm),ZNp,ZNq (st:=(st.upd lv mx a2).upd lv ox b1) (fun q=>h3 q.symm),ZNp,ZNp]
theorem Zhu {st:St} {A:List (Bool × List Blk)} {ro:Bool} {L:List Blk} (hA:A=st.A++[(st.ro,st.L)]) {lv mx ob ox ver:Nat} {t:List Nat} (hl:lv<=st.A.length) :
 Jf ⟨A,ro,L⟩ lv mx ob ox ver t=⟨(Jf st lv mx ob ox ver t).A++[((Jf st lv mx ob ox ver t).ro,(Jf st lv mx ob ox ver t).L)],ro,L⟩:=by
 unfold Jf;rw [Jj hA hl]
 have e2:=fun (b:Blk)=>Jj (st:=st.upd lv mx (.map (YD t))) (A:=(st.upd lv mx (.map (YD t))).A++[((st.upd lv mx (.map (YD t))).ro,(st.upd lv mx (.map (YD t))).L)]) (ro:=ro) (L:=L) (lv:=lv) (ix:=ox) (b:=b) rfl (by rw [St.upd_A];exact hl)
 rw [e2]
 exact Jj rfl (by rw [St.upd_A,St.upd_A];exact hl)
theorem KS.push {st:St} {A:List (Bool × List Blk)} {ro:Bool} {L:List Blk} (hA:A=st.A++[(st.ro,st.L)]) {lv mb mx ob ox wb ver:Nat} {out:List Nat} (h:KS st lv mb mx ob ox wb ver out):KS ⟨A,ro,L⟩ lv mb mx ob ox wb ver out :=
 ⟨XG hA (St.get_le h.hm) h.wr,ZS hA h.hm,ZS hA h.hmx,ZS hA h.ho,ZS hA h.hox,ZS hA h.hw,h.n1,h.n2,h.n3,h.n4,h.n5⟩
theorem ZoW (st:St) (lv mx ob ox ver:Nat) (out:List Nat):(Jf st lv mx ob ox ver out).A.length=st.A.length:=by
 unfold Jf;rw [St.upd_A,St.upd_A,St.upd_A]
theorem ZoX (t:Tr):t.Pos->∀ {st:St} {lv mb mx ob ox wb ver:Nat} {out:List Nat},KS st lv mb mx ob ox wb ver out->out.length+t.siz<4294967296 ->
 Sp Tb Yo [t.av,.ptr lv mb 0 0 0,.ptr lv ob 0 0 0,.ptr lv wb 0 0 0] st fun v st'=>v=.tup []/\∃ ver',st'=Jf st lv mx ob ox ver' (t.kwT out):=by
 induction t using Tr.ind with
 | step o h m s k ih =>
  intro hp st lv mb mx ob ox wb ver out hs hl
  cases hp with
  | mk h0 h4 hk2 =>
  have e1:(Tr.mk o h m s k).kwT out=Tr.kwL (k.getD []) (if o≠0/\o∉out then out++[o] else out):=by rw [Tr.kwT,Tr.kwO_getD]
  have e2:(Tr.mk o h m s k).siz=1+Tr.sizL (k.getD []):=by rw [Tr.siz,Tr.sizO_getD]
  rw [e1];rw [e2] at hl;refine ZlO rfl ?_;obtain ⟨A,hA⟩:∃ A,A=st.A++[(st.ro,st.L)]:=⟨_,rfl⟩;rw [<- hA];have hlv:=St.get_le hs.hm
  have hav:(Tr.mk o h m s k).av=.agg [.int .u64 o,.int .i64 h,.int .i64 m.b,.int .i64 m.r,.int .i64 m.l,.str s,slV Tr.av k]:=by rw [Tr.av,Tr.avO_sl]
  -- the loop over the children
  have key:∀ (ver1:Nat) (out1:List Nat) (A1:List (Bool × List Blk)),A1=(Jf st lv mx ob ox ver1 out1).A++[((Jf st lv mx ob ox ver1 out1).ro,(Jf st lv mx ob ox ver1 out1).L)]->out1.length<=out.length+1->∀ e:Env,e=[(3,.ptr lv wb 0 0 0),(4,.ptr A.length 0 0 0 0)]\/e=[(1,.ptr lv mb 0 0 0),(2,.ptr lv ob 0 0 0),(3,.ptr lv wb 0 0 0),(4,.ptr A.length 0 0 0 0),(16,.bool false)] ->
   Ru (S Tb) (.seq ZGE (.block 0 (.loop ZBP))) [] (fun x e st''=>∃ v st',Jh false ([]:List RV) (x,e,st'')=some (v,st')/\v=.tup []/\∃ ver',st'=Jf st lv mx ob ox ver' (Tr.kwL (k.getD []) out1)) e ⟨A1,false,[.arr 7 0 [(Tr.mk o h m s k).av]]⟩:=by
   intro ver1 out1 A1 hA1 hl1 e he
   have hAl:A.length=A1.length:=by rw [hA,hA1];simp [ZoW]
   rw [hAl] at he;rw [hav]
   cases k with
   | none =>
    simp only [slV]
    rcases he with rfl|rfl
    all_goals repeat' (first|refine ZE ?_|refine ZD ?_|refine ZF rfl ?_|refine ZU rfl rfl ?_|refine ZO rfl rfl rfl rfl ?_|refine ZB rfl ?_|refine ZC ?_|refine J7 rfl ?_|(refine Zh rfl rfl (fun _=>?_) (fun _=>?_)<;>try (exfalso;omega))|refine ZG rfl ?_|refine Ju ?_|refine Zs ?_|refine ZJ ?_|refine ZL ?_|refine Zd ?_|refine Zc rfl ?_)
    all_goals try (exfalso;omega)
    all_goals exact ⟨_,_,Zg hA1 (.inl rfl) rfl rfl rfl rfl rfl,rfl,ver1,rfl⟩
   | some l =>
    simp only [Option.getD] at h4 hk2 ih hl ⊢;simp only [slV]
    have hloop:Ru (S Tb) (.loop ZBP) [.blk 0] (fun x e st''=>∃ v st',Jh false ([]:List RV) (x,e,st'')=some (v,st')/\v=.tup []/\∃ ver',st'=Jf st lv mx ob ox ver' (Tr.kwL l out1)) [(3,.ptr lv wb 0 0 0),(26,.lit (l.map Tr.av)),(27,.int .i64 l.length),(28,.int .i64 0)] ⟨A1,false,[.arr 7 0 [.agg [.int .u64 o,.int .i64 h,.int .i64 m.b,.int .i64 m.r,.int .i64 m.l,.str s,.lit (l.map Tr.av)]]]⟩:=by
     refine Zx (α:=Nat × List Blk × Nat) (fun p=>[(3,.ptr lv wb 0 0 0),(26,.lit (l.map Tr.av)),(27,.int .i64 l.length),(28,.int .i64 p.1)])
      (fun p=>⟨(Jf st lv mx ob ox p.2.2 (Tr.kwL (l.take p.1) out1)).A++[((Jf st lv mx ob ox p.2.2 (Tr.kwL (l.take p.1) out1)).ro,(Jf st lv mx ob ox p.2.2 (Tr.kwL (l.take p.1) out1)).L)],false,.arr 7 0 [.agg [.int .u64 o,.int .i64 h,.int .i64 m.b,.int .i64 m.r,.int .i64 m.l,.str s,.lit (l.map Tr.av)]]::p.2.1⟩)
      (fun p=>p.1<=l.length) (fun p=>l.length-p.1) (0,[],ver1) rfl ?_ (by simp) ?_
     ·simp only [List.take_zero,Tr.kwL,<- hA1]
     rintro ⟨i,G,ver2⟩ hi
     simp only at hi ⊢
     have hk3:=hs.put ver2 (Tr.kwL (l.take i) out1)
     have hpp:∀ v3 t3,Jf (Jf st lv mx ob ox ver2 (Tr.kwL (l.take i) out1)) lv mx ob ox v3 t3=Jf st lv mx ob ox v3 t3:=fun v3 t3=>ZkA hs.n1 hs.n2 hs.n3
     generalize hs1:Jf st lv mx ob ox ver2 (Tr.kwL (l.take i) out1)=st1 at *
     obtain ⟨A2,hA2⟩:∃ A2,A2=st1.A++[(st1.ro,st1.L)]:=⟨_,rfl⟩;rw [<- hA2]
     have hgw:=fun L=>ZS hA2 (ro:=false) (L:=L) hk3.hw
     repeat' (first|refine ZE ?_|refine ZD ?_|refine ZB rfl ?_|refine ZC ?_|(refine Zh rfl rfl (fun _=>?_) (fun _=>?_)<;>try (exfalso;omega))|refine ZV rfl ?_|refine ZG rfl ?_|refine Z1 rfl rfl rfl ?_|refine J2 rfl rfl (by omega) Z2 (fun _ _=>?_)|refine QI rfl (Zk _) ?_|refine Yr rfl rfl rfl (QH _ _ _) (Qc _ _) rfl ?_|refine ZI ?_|refine Zs ?_|refine ZJ ?_|refine ZL ?_|refine Zd ?_|refine Zc rfl ?_|refine Zo ?_)
     ·rename_i u hu
      have hu2:l[i]?=some u:=hu;have hum:=jM hu2;have hle:lv<=st1.A.length:=St.get_le hk3.hm
      have hsum:Tr.sizL l=Tr.sizL (l.take i)+(u.siz+Tr.sizL (l.drop (i+1))):=by
       conv=>lhs;rw [<- List.take_append_drop (i+1) l,Zb hu2,Tr.sizL_append,Tr.sizL_append]
       simp [Tr.sizL];omega
      have hlen:=Tr.kwL_len (l.take i) out1
      have ihu:=fun L=>ih u hum (hk2 u hum) (hk3.push hA2 (ro:=false) (L:=L)) (by omega)
      have hkw:Tr.kwL (l.take (i+1)) out1=u.kwT (Tr.kwL (l.take i) out1):=by
       rw [Zb hu2,Tr.kwL_append];rfl
      refine Z9 rfl (hgw _) rfl rfl ?_
      repeat' (refine Q1 rfl rfl (Zk _) ?_)
      refine ZUQ rfl rfl (wk4 _ _ _ _ rfl rfl rfl) (ihu _) ?_
      rintro v st' ⟨rfl,v3,rfl⟩
      rw [Zhu hA2 hle,hpp,<- hkw]
      repeat' (first|refine ZD ?_|refine ZF rfl ?_|refine ZB rfl ?_|refine ZC ?_|refine Zj rfl rfl (by omega) ?_|refine Zy ?_|refine Z8 ?_)
      exact ⟨(i+1,_,v3),⟨rfl,rfl⟩,by simp only;omega,by simp only;omega⟩
     ·have hi':i=l.length:=by omega
      subst hi'
      rw [List.take_length] at *
      exact ⟨_,_,Zg hA2 (.inl rfl) rfl rfl rfl rfl rfl,rfl,ver2,hs1.symm⟩
    rcases he with rfl|rfl
    all_goals repeat' (first|exact hloop|refine ZE ?_|refine ZD ?_|refine ZF rfl ?_|refine ZU rfl rfl ?_|refine ZO rfl rfl rfl rfl ?_|refine ZB rfl ?_|refine ZC ?_|refine QG rfl ?_|refine ZJ ?_)
  have hg1:=fun L=>ZS hA (ro:=false) (L:=L) hs.hm
  have hg2:=fun L=>ZS hA (ro:=false) (L:=L) hs.hmx
  have hlk:=fun L=>ZF7 (hg2 L) o
  have hkey0:=key ver out A (by rw [hs.same];exact hA) (by omega) _ (.inr rfl)
  have hwide:=Z2 (Tr.mk o h m s k);have hforce:=QB (Tr.mk o h m s k);rw [hav] at hwide hforce
  by_cases ho:o=0
  ·subst ho
   rw [if_neg (by simp)]
   rw [hav] at hkey0 ⊢
   repeat' (first|refine Z1 rfl hwide hforce ?_|exact hkey0|refine ZE ?_|refine ZD ?_|refine ZF rfl ?_|refine ZU rfl rfl ?_|refine ZO rfl rfl rfl rfl ?_|refine Jq rfl rfl ?_|refine Zn rfl rfl rfl rfl ?_|refine ZB rfl ?_|refine ZC ?_|(refine Zl rfl rfl (fun _=>?_) (fun _=>?_)<;>try (exfalso;omega))|refine ZG rfl ?_|refine ZI ?_)
   all_goals contradiction
  ·by_cases hm:o∈out
   ·rw [if_neg (by simp [hm])]
    rw [hav] at hkey0 ⊢;rw [decide_eq_true hm] at hlk
    repeat' (first|refine Z1 rfl hwide hforce ?_|exact hkey0|refine ZE ?_|refine ZD ?_|refine ZF rfl ?_|refine ZU rfl rfl ?_|refine ZO rfl rfl rfl rfl ?_|refine QE rfl ?_|refine Zn rfl rfl rfl rfl ?_|refine ZB rfl ?_|refine ZC ?_|(refine Zl rfl rfl (fun _=>?_) (fun _=>?_)<;>try (exfalso;omega))|refine ZG rfl ?_|refine QZ rfl rfl ?_|refine Z9 rfl (hg1 _) rfl rfl ?_|refine XH rfl rfl (hlk _) ?_|refine ZI ?_)
    all_goals contradiction
   ·rw [if_pos ⟨ho,hm⟩]
    have hkey:=key (ver+1) (out++[o]);rw [hav] at hkey ⊢;rw [decide_eq_false hm] at hlk
    repeat' (first|refine Z1 rfl hwide hforce ?_|refine ZE ?_|refine ZD ?_|refine ZF rfl ?_|refine ZU rfl rfl ?_|refine ZO rfl rfl rfl rfl ?_|refine QE rfl ?_|refine Zn rfl rfl rfl rfl ?_|refine ZB rfl ?_|refine ZC ?_|(refine Zl rfl rfl (fun _=>?_) (fun _=>?_)<;>try (exfalso;omega))|refine ZV rfl ?_|refine QZ rfl rfl ?_|refine Z9 rfl (hg1 _) rfl rfl ?_|refine XH rfl rfl (hlk _) ?_)
    all_goals try contradiction
    refine Zf6 hA rfl rfl rfl hs.wr hs.hmx rfl (ZN1 o out hm) (fun A' hA'=>?_)
    have q1:∀ l' i',(st.upd lv mx (.map (YD (out++[o])))).get l' i'=if l'=lv/\i'=mx then some (.map (YD (out++[o]))) else st.get l' i':=fun l' i'=>St.get_upd hs.hmx rfl
    have ka:(st.upd lv mx (.map (YD (out++[o])))).get lv ob=some (.arr 1 0 [.ref lv ox ver 0 out.length]):=by rw [q1,if_neg (fun q=>hs.n2 q.2.symm)];exact hs.ho
    have kb:(st.upd lv mx (.map (YD (out++[o])))).get lv ox=some (.arr 1 ver (out.map Zu)):=by rw [q1,if_neg (fun q=>hs.n1 q.2.symm)];exact hs.hox
    have hw1:=St.wr_upd (b:=.map (YD (out++[o]))) (ix:=mx) hs.wr hs.wr
    have hAl:A.length=A'.length:=by rw [hA,hA'];simp [St.upd_A]
    rw [hAl] at hkey ⊢
    have hput:Jf st lv mx ob ox (ver+1) (out++[o])=((st.upd lv mx (.map (YD (out++[o])))).upd lv ox (.arr 1 (ver+1) (out.map Zu++[.int .u64 o]))).upd lv ob (.arr 1 0 [.ref lv ox (ver+1) 0 (out.length+1)]):=by
     unfold Jf;rw [List.map_append,lL];rfl
    rw [hput] at hkey;clear hput q1
    generalize st.upd lv mx (.map (YD (out++[o])))=st1 at *
    have hg3:=fun L=>ZS hA' (ro:=false) (L:=L) ka
    repeat' (first|refine ZD ?_|refine ZU rfl rfl ?_|refine ZO rfl rfl rfl rfl ?_|refine ZB rfl ?_|refine ZC ?_|refine QK rfl rfl rfl rfl ?_|refine Z9 rfl (hg3 _) rfl rfl ?_)
    refine ZoV hA' hw1 kb (by rw [List.length_map];rfl) rfl rfl rfl (by simp;omega) (by decide) (fun A2 hA2=>?_)
    have q2:∀ l' i',(st1.upd lv ox (.arr 1 (ver+1) (out.map Zu++[.int .u64 o]))).get l' i'=if l'=lv/\i'=ox then some (.arr 1 (ver+1) (out.map Zu++[.int .u64 o])) else st1.get l' i':=fun l' i'=>St.get_upd kb rfl
    have kc:(st1.upd lv ox (.arr 1 (ver+1) (out.map Zu++[.int .u64 o]))).get lv ob=some (.arr 1 0 [.ref lv ox ver 0 out.length]):=by rw [q2,if_neg (fun q=>hs.n3 q.2.symm)];exact ka
    have hw2:=St.wr_upd (b:=.arr 1 (ver+1) (out.map Zu++[.int .u64 o])) (ix:=ox) hw1 hw1
    have hAl2:A'.length=A2.length:=by rw [hA',hA2];simp [St.upd_A]
    rw [hAl2] at hkey ⊢
    generalize st1.upd lv ox (.arr 1 (ver+1) (out.map Zu++[.int .u64 o]))=st2 at *
    refine ZHT hA2 rfl rfl hw2 kc rfl (JP _ (Nat.lt_succ_self _)) rfl (fun A3 hA3=>?_)
    have hAl3:A2.length=A3.length:=by rw [hA2,hA3];simp [St.upd_A]
    rw [hAl3] at hkey ⊢
    have hk:=hkey A3 (by rw [hA3];simp) (by simp) _ (.inl rfl)
    repeat' (first|exact hk|refine ZB rfl ?_|refine ZC ?_)
theorem Zpd {t:Tr} (hp:t.Pos) (hsz:t.siz<4294967296) (st:St):S Tb ZHU [t.av] st=some (.lit ((t.kwT []).map Zu),st):=by
 refine QJ rfl (fun A hA=>?_)
 have hW:∀ L,L=[.arr 7 0 [t.av],.arr 1 0 [],.arr 1 0 [.ref A.length 1 0 0 0],.map [],.arr 1 0 [.map A.length 3],.arr 1 0 [.func (.func Yo) [] [.ptr A.length 4 0 0 0,.ptr A.length 2 0 0 0,.ptr A.length 5 0 0 0]]] ->
  Sp Tb Yo [t.av,.ptr A.length 4 0 0 0,.ptr A.length 2 0 0 0,.ptr A.length 5 0 0 0] ⟨A,false,L⟩ fun v st'=>v=.tup []/\∃ ver',st'=Jf ⟨A,false,L⟩ A.length 3 2 1 ver' (t.kwT []):=by
  rintro L rfl
  refine ZoX t hp (ver:=0) (mb:=4) (mx:=3) (ob:=2) (ox:=1) (wb:=5) ⟨by simp [St.wr],by rw [St.get_cur];rfl,by rw [St.get_cur];rfl,by rw [St.get_cur];rfl,by rw [St.get_cur];rfl,by rw [St.get_cur];rfl,by decide,by decide,by decide,by decide,by decide⟩ (by simp;omega)
 repeat' (first|refine ZE ?_|refine ZD ?_|refine ZF rfl ?_|refine ZO rfl rfl rfl rfl ?_|refine ZB rfl ?_|refine ZC ?_|refine YY rfl rfl ?_|refine Ze rfl rfl rfl ?_|refine ZBv rfl ?_|refine ZB9 rfl ?_|refine ZO rfl rfl rfl (Zk _) ?_|refine Z1 rfl (Z2 _) (QB _) ?_|refine Zr rfl rfl rfl (Zj9 _ (Nat.lt_succ_self _)) rfl rfl ?_|refine Zr rfl rfl rfl (ZNw _ (Nat.lt_succ_self _)) rfl rfl ?_)
 refine ZUQ rfl rfl (wk4 _ _ _ _ rfl rfl rfl) (hW _ rfl) ?_
 rintro v st' ⟨rfl,v2,rfl⟩
 have hpc:∀ b0 b1 b2 b3 b4 b5 w,Jf ⟨A,false,[b0,b1,b2,b3,b4,b5]⟩ A.length 3 2 1 v2 w=⟨A,false,[b0,.arr 1 v2 (w.map Zu),.arr 1 0 [.ref A.length 1 v2 0 w.length],.map (YD w),b4,b5]⟩:=by
  intro b0 b1 b2 b3 b4 b5 w
  simp [Jf,St.upd]
 rw [hpc]
 generalize t.kwT []=w at *
 repeat' (first|refine ZE ?_|refine ZD ?_|refine ZF rfl ?_|refine ZO rfl rfl rfl rfl ?_|refine ZB rfl ?_|refine ZC ?_|refine ZQ ?_|refine ZL ?_)
 refine ZAr (es:=w.map Zu) hA (by first|exact .inl rfl|exact .inr rfl) rfl rfl (by simp) (by intro v hv;obtain ⟨x,_,rfl⟩:=List.mem_map.1 hv;rfl) ?_
 rfl
end Go.Q15
namespace Go.Q15
open Go Go.QAbs
set_option maxRecDepth 100000
set_option maxHeartbeats 8000000
def wrV (t:Tr) (r:AR):AR × Ro × List Nat:=if t.old=0/\t.h=0/\t.text=[] then (r,.zero,[]) else t.wr r
theorem ZUT {N:ZP} {t:Tr} (hv:Val N t) (r:AR):wrV t r=t.wr r:=by
 unfold wrV
 cases hv with
 | kept h0=>rw [if_neg];simp [Tr.old,h0]
 | leaf h1=>rw [if_neg];rintro ⟨_,_,q⟩;simp only [Tr.text] at q;rw [q] at h1;simp at h1
 | inner=>rw [if_neg];simp [Tr.h]
theorem ZQn {t:Tr} (h:IsEmpty t) (r:AR):wrV t r=(r,.zero,[]):=by
 unfold wrV;rw [if_pos ⟨h.old,h.h,h.text⟩]
theorem Val.not_empty {N:ZP} {t:Tr} (hv:Val N t):¬ IsEmpty t:=fun h=>by
 have:=hv.pos.2
 have:=h.bytes
 omega
theorem PI.run {r:AR} (ho:AROk r) (hg:GoodN r.nodes) {t:Tr} (hv:VE r.nodes t) (hb:t.bytes<=65536) (hn:nw t<=r.n) {its:List It} {rx:Nat} {ρ:Nat->Ro} (h:PI t its rx ρ) :
 ∃ ρ',RunOk its r ρ (wrV t r).1 ρ' (wrV t r).2.2/\ρ' rx=(wrV t r).2.1:=by
 rcases h with ⟨h1,rfl,h2⟩|⟨⟨M,hM⟩,R,h1,h2,h3⟩
 ·rw [ZQn h1];exact ⟨ρ,.nil,h2⟩
 ·rcases hv with hv|hv
  ·exact absurd hv hM.not_empty
  ·rw [ZUT hv]
   rw [ZF6 hv] at hn;obtain ⟨ρ',a1,a2,_⟩:=exec_ok hg hv hb r ho hg (.refl _) hn rx its R ρ h1 h2 h3;exact ⟨ρ',a1,a2⟩
theorem Ziq {A:List (Bool × List Blk)} {L:List Blk} {la b:Nat} {r:AR} (hA:HasR ⟨A,false,L⟩ la b r) (hN:r.n<=r.blk.length) (h16:r.states.length<=16384) (h6:r.n<65536) {t:Tr} (hv:VE r.nodes t) (hb:t.bytes<=65536) (hn:nw t<=r.n) :
 ∃ L2 tx ver cs its F keys rx ρ,S Tb XJ [.ptr la (b+5) 0 0 0,t.av] ⟨A,false,L⟩=some (.tup [.ptr A.length (L.length+1) 0 0 0,.int .i64 0],⟨A,false,L2⟩)/\Begun A L L2 la b t tx ver cs its F keys rx ρ:=by
 rcases hv with hv|hv
 ·exact ZgB hA hN h16 h6 hv
 ·rw [ZF6 hv] at hn
  exact Zj7 (N:=r.nodes) hA hN h16 h6 hv hb hn
theorem ZoY {A:List (Bool × List Blk)} {L:List Blk} {ix ver n:Nat} {l:List Nat} {ro:Ro} {e:Int} (hg:L[ix]?=some (.arr 1 ver (l.map Zu))) (hn:n=l.length) :
 ZY QD A.length ⟨A,false,L⟩ (.tup [ro.av,.ref A.length ix ver 0 n,.int .i64 e])=some (.tup [ro.av,.lit (l.map Zu),.int .i64 e],⟨A,false,L.set ix .dead⟩):=by
 subst hn
 have h1:=ZI6 (n:=4) (A:=A) (s:=0) (m:=l.length) hg (by simp) (es':=l.map Zu) (by
  rw [List.drop_zero,List.take_of_length_le (by simp)]
  exact ZQk (k:=.u64) (fun n:Nat=>(n:Int)) 3 0 _ l)
 show (mapSt (ZY 5 A.length) _ _).bind Zb7=_
 have h2:ZY 5 A.length ⟨A,false,L⟩ ro.av=some (ro.av,⟨A,false,L⟩):=rfl;simp only [mapSt,h2,oS,h1];rfl
theorem RunOk.len {its:List It} {r r':AR} {ρ ρ':Nat->Ro} {hs:List Nat} (h:RunOk its r ρ r' ρ' hs):hs.length=its.length:=by
 induction h with
 | nil=>rfl
 | cons hn hx hk h ih=>simp [ih]
theorem RunOk.inv {it:It} {its:List It} {r r':AR} {ρ ρ':Nat->Ro} {l:List Nat} (h:RunOk (it::its) r ρ r' ρ' l) :
 ∃ hs,l=r.next::hs/\0<r.n/\NdOk (Q9 ρ it.c)/\ZQm r.nodes (Q9 ρ it.c)/\RunOk its (r.add (Q9 ρ it.c)) (ZN0 ρ it.rx r.next) r' ρ' hs:=by
 cases h with
 | cons hn hx hk h=>exact ⟨_,rfl,hn,hx,hk,h⟩
theorem RunOk.nil_inv {r r':AR} {ρ ρ':Nat->Ro} {l:List Nat} (h:RunOk [] r ρ r' ρ' l):l=[]/\r'=r/\ρ'=ρ:=by
 cases h;exact ⟨rfl,rfl,rfl⟩
theorem Zlu {st:St} {la b:Nat} (hl:la<=st.A.length) (rj r2:AR) {n:Nat} (hn:n=st.A.length+1) (L:List Blk) (ip tx ver len rx k:Nat) (ro:Ro) (j:Nat) :
 ZF5 ⟨(Qb st la b rj).ps,false,L⟩ n ip tx ver la b len rx r2 k ro j=⟨(Qb st la b r2).ps,false,(L.set k (.arr 5 0 [ro.av])).set ip (.arr 3 0 [.agg [.ptr la (b+5) 0 0 0,.ref n tx ver (j+1) (len-j-1),.ptr n rx 0 0 0]])⟩:=by
 have e1:Qb ⟨(Qb st la b rj).ps,false,L⟩ la b r2=⟨(Qb st la b r2).ps,false,L⟩:=by
  rw [XP rfl (by rw [ZDd];exact hl),Zjz]
 have e2:((Qb st la b r2).ps).length=n:=by rw [hn];simp [ZDd]
 rw [ZF5,e1];unfold St.upd;simp only [e2,if_true]
theorem PenS.frm {A:List (Bool × List Blk)} {L L':List Blk} {n ip tx ver la b:Nat} {cls:List AV} {its:List It} {F:List (Nat × Blk)} {keys:List Nat} {rx:Nat} {ρ:Nat->Ro} {j:Nat} (h:PenS ⟨A,false,L⟩ n ip tx ver la b cls its F keys rx ρ j) (hn:n=A.length)
 (hg:∀ i,i=ip\/(cls≠[]/\i=tx)\/i∈keys\/(∃ p∈F,i=p.1)->L'[i]?=L[i]?):PenS ⟨A,false,L'⟩ n ip tx ver la b cls its F keys rx ρ j:=by
 subst hn;obtain ⟨td,h1,h2⟩:=h.pen
 have hget:∀ i,(i=ip\/(cls≠[]/\i=tx)\/i∈keys\/(∃ p∈F,i=p.1))->St.get ⟨A,false,L'⟩ A.length i=St.get ⟨A,false,L⟩ A.length i:=fun i hi=>by rw [St.get_cur,St.get_cur,hg i hi]
 refine ⟨by simp [St.wr],⟨td,by rw [hget _ (.inl rfl)];exact h1,?_⟩,h.cl,fun p hp=>by rw [hget _ (.inr (.inr (.inr ⟨p,hp,rfl⟩)))];exact h.fx p hp,fun k hk=>by rw [hget _ (.inr (.inr (.inl hk)))];exact h.rts k hk,h.key,h.rk,h.s1,h.s2,h.s3,h.ar,h.len,h.jl⟩
 rcases h2 with q|⟨hc,q1,q2⟩
 ·exact .inl q
 ·exact .inr ⟨hc,q1,by rw [hget _ (.inr (.inl ⟨hc,rfl⟩))];exact q2⟩
theorem Zlv {e:Env} {A:List (Bool × List Blk)} {st:St} {L:List Blk} {x:Ex} {c4 c5 c6 j4 ix w4 v4 ver n:Nat} {l:List Nat} {ro:Ro} {z:Int} (hA:A=st.A++[(st.ro,st.L)]) (hx:x=.norm\/x=.ret) (h4:J0 e c4=some (.ptr A.length j4 v4 0 0)) (hg4:L[j4]?=some (.arr w4 v4 [ro.av]))
 (h5:J0 e c5=some (.ref A.length ix ver 0 n)) (hg5:L[ix]?=some (.arr 1 ver (l.map Zu))) (hn:n=l.length) (h6:J0 e c6=some (.int .i64 z)):Jh false [.c c4 true 5,.s c5,.s c6] (x,e,⟨A,false,L⟩)=some (.tup [ro.av,.lit (l.map Zu),.int .i64 z],st):=by
 refine ZDR (v:=.tup [ro.av,.ref A.length ix ver 0 n,.int .i64 z]) hA hx ?_ (ZoY hg5 hn) rfl
 have h1:ZBJ ⟨A,false,L⟩ e (.c c4 true 5)=some ro.av:=by
  simp only [ZBJ,QN h4,loadP,St.get_cur,hg4,vis,ZF8,if_true,List.getElem?_cons_zero,oS];rfl
 simp only [QV,ZDP,h1,oS];simp only [ZBJ,QN h5,QN h6,oS,Option.map_some,ZF9]
theorem ZeG {st:St} {la b:Nat} {r:AR} (hA:Has st la b r) (ho:AROk r) (hg:GoodN r.nodes) {t:Tr} (hv:VE r.nodes t) (hb:t.bytes<=65536) (hn:nw t<=r.n) :
 S Tb XI [.ptr la (b+5) 0 0 0,t.av] st=some (.tup [(wrV t r).2.1.av,.lit ((wrV t r).2.2.map Zu),.int .i64 0],Qb st la b (wrV t r).1):=by
 refine ZBD rfl (fun A hA'=>?_)
 obtain ⟨LB,hLB⟩:∃ LB:List Blk,LB=[.arr 7 0 [t.av],.arr 5 0 [Ro.zero.av],.arr 1 0 []]:=⟨_,rfl⟩;have hle:=hA.le
 have hla:la<A.length:=by rw [hA'];simp;omega
 have h3:LB.length=3:=by rw [hLB];rfl
 obtain ⟨L2,tx,ver,cs,its,F,keys,rx,ρ,hS,hB⟩:=Ziq (L:=LB) (hA.push hA').r ho.nb ho.n16 (by have:=ho.nn;have:=ho.n16;omega) hv hb hn
 obtain ⟨ρ',hrun,hro⟩:=hB.pi.run ho hg hv hb hn
 generalize (wrV t r).1=r' at *
 generalize (wrV t r).2.2=hs at *
 generalize (wrV t r).2.1=ro at *
 have hcl:=hB.ps.cl.len
 have hk5:∀ k∈keys,5<=k:=fun k hk=>by have:=hB.klo k hk;omega
 have g1:L2[1]?=some (.arr 5 0 [Ro.zero.av]):=by rw [hB.old 1 (by omega),hLB];rfl
 have g2:L2[2]?=some (.arr 1 0 (([]:List Nat).map Zu)):=by rw [hB.old 2 (by omega),hLB];rfl
 have hps:=hB.ps;rw [h3] at hS hps;rw [hLB] at hS
 repeat' (first|refine ZE ?_|refine ZD ?_|refine ZF rfl ?_|refine Zq rfl rfl ?_|refine ZB rfl ?_|refine ZC ?_|(refine Zl rfl rfl (fun _=>?_) (fun _=>?_)<;>try (exfalso;omega))|refine ZG rfl ?_|refine Ze rfl rfl rfl ?_|refine YF rfl ?_|refine ZO rfl rfl rfl (Zk _) ?_|refine Z1 rfl (Z2 _) (QB _) ?_|refine ZA rfl rfl (by first|rfl|(simp only [lE,lN,lC,ZZ,ZW,ZX];first|done|rfl)) (hS) ?_|refine ZI ?_|refine ZJ ?_)
 all_goals try contradiction
 have hAn:A.length=st.A.length+1:=by rw [hA'];simp
 have hhl:=hrun.len
 refine Zx (α:=Bool × Nat × AR × (Nat->Ro) × List Blk) (fun p=>match p.1 with
  | true=>[(4,.ptr A.length 1 0 0 0),(5,.ref A.length 2 p.2.1 0 p.2.1),(6,.int .i64 0),(7,.ptr A.length 4 0 0 0),(18,.bool false)]
  | false=>[(4,.ptr A.length 1 0 0 0),(5,.ref A.length 2 p.2.1 0 p.2.1),(7,.ptr A.length 4 0 0 0)])
  (fun p=>⟨(Qb st la b p.2.2.1).ps,false,p.2.2.2.2⟩)
  (fun p=>PenS ⟨(Qb st la b p.2.2.1).ps,false,p.2.2.2.2⟩ A.length 4 tx ver la b cs its F keys rx p.2.2.2.1 p.2.1/\AROk p.2.2.1/\RunOk (its.drop p.2.1) p.2.2.1 p.2.2.2.1 r' ρ' (hs.drop p.2.1)/\p.2.1<=its.length/\p.2.2.2.2[1]?=some (.arr 5 0 [Ro.zero.av])/\p.2.2.2.2[2]?=some (.arr 1 p.2.1 ((hs.take p.2.1).map Zu)))
  (fun p=>its.length-p.2.1) (true,0,r,ρ,L2) rfl ?_ ?_ ?_
 ·simp only [hA.same,<- hA']
 ·simp only [hA.same,<- hA']
  exact ⟨hps,ho,hrun,Nat.zero_le _,g1,g2⟩
 rintro ⟨fst,j,rj,ρj,Lj⟩ ⟨q1,q2,q3,q4,q5,q6⟩
 simp only at q1 q2 q3 q4 q5 q6
 have hHj:Has ⟨(Qb st la b rj).ps,false,Lj⟩ la b rj:=(hA.put rj).push rfl;obtain ⟨td,t1,t2⟩:=q1.pen
 have hAl:A.length=(Qb st la b rj).ps.length:=by rw [hAn];simp [ZDd]
 rcases Nat.lt_or_ge j its.length with hlt|hge
 ·obtain ⟨it,hit⟩:∃ it,its[j]?=some it:=⟨its[j]'hlt,by simp [hlt]⟩
  have hd:its.drop j=it::its.drop (j+1):=by
   rw [List.drop_eq_getElem_cons hlt];rw [jE hlt] at hit;rw [Option.some.inj hit]
  rw [hd] at q3;obtain ⟨hs2,e1,hn1,hx1,hk1,hr1⟩:=q3.inv
  have hdj:hs[j]?=some rj.next:=by
   have:=List.getElem?_drop (xs:=hs) (i:=j) (j:=0)
   rw [e1] at this
   simpa using this.symm
  have hd2:hs.drop (j+1)=hs2:=by
   rw [<- List.drop_drop,e1];rfl
  obtain ⟨p1,p2,p3⟩:=q1.step hHj q2 hn1 hit hx1 hk1;rw [Zlu hle rj _ hAn] at p1 p2
  have hjc:j<cs.length:=by rw [hcl];exact hlt
  have hne:cs≠[]:=fun q=>by rw [q] at hjc;simp at hjc
  rcases t2 with ⟨w,_⟩|⟨_,rfl,t3⟩
  ·exact absurd w hne
  obtain ⟨k1,_⟩:=q1.key it (jM hit);have hk5':=hk5 _ k1
  have hl4:Lj[4]?=some (.arr 3 0 [.agg [.ptr la (b+5) 0 0 0,.ref A.length tx ver j (cs.length-j),.ptr A.length rx 0 0 0]]):=by
   rw [hAl] at t1;rw [St.get_cur] at t1;rw [hAl];exact (ZBo t1).1
  obtain ⟨r2,hr2⟩:∃ r2,r2=rj.add (Q9 ρj it.c):=⟨_,rfl⟩;rw [<- hr2] at p1 p2 hr1
  have ho2:AROk r2:=by rw [hr2];exact q2.add hn1 _
  have hAl2:A.length=(Qb st la b r2).ps.length:=by rw [hAn];simp [ZDd]
  obtain ⟨L3,hL3⟩:∃ L3,L3=(Lj.set it.rx (.arr 5 0 [((ρj it.rx).wr rj.next).av])).set 4 (.arr 3 0 [.agg [.ptr la (b+5) 0 0 0,.ref A.length tx ver (j+1) (cs.length-j-1),.ptr A.length rx 0 0 0]]):=⟨_,rfl⟩;rw [<- hL3] at p1 p2
  have h31:L3[1]?=some (.arr 5 0 [Ro.zero.av]):=by rw [hL3,jS (by omega),jS (by omega)];exact q5
  have h32:L3[2]?=some (.arr 1 j ((hs.take j).map Zu)):=by rw [hL3,jS (by omega),jS (by omega)];exact q6
  have hj2:j=((hs.take j).map Zu).length:=by simp;omega
  have hj3:∀ x:AV,((hs.take j).map Zu).length+[x].length<4294967296:=fun x=>by have:=q1.len;simp;omega
  have hinv:∀ L4,L4=L3.set 2 (.arr 1 (j+1) ((hs.take j).map Zu++[.int .u64 rj.next]))->PenS ⟨(Qb st la b r2).ps,false,L4⟩ A.length 4 tx ver la b cs its F keys rx (ZN0 ρj it.rx rj.next) (j+1)/\AROk r2/\RunOk (its.drop (j+1)) r2 (ZN0 ρj it.rx rj.next) r' ρ' (hs.drop (j+1))/\j+1<=its.length/\L4[1]?=some (.arr 5 0 [Ro.zero.av])/\L4[2]?=some (.arr 1 (j+1) ((hs.take (j+1)).map Zu)):=by
   rintro L4 rfl
   refine ⟨?_,ho2,by rw [hd2];exact hr1,hlt,by rw [jS (by omega)];exact h31,?_⟩
   ·refine p2.frm hAl2 (fun i hi=>jS ?_)
    rcases hi with rfl|⟨hc,rfl⟩|q|⟨p,hp,rfl⟩
    ·omega
    ·have:=hB.tlo hc;omega
    ·have:=hk5 i q;omega
    ·have:=hB.flo p hp;omega
   ·rw [List.getElem?_set_self (List.getElem?_eq_some_iff.1 h32).1,Zb hdj,List.map_append];rfl
  obtain ⟨A2,hA2⟩:∃ A2,A2=(Qb st la b r2).ps:=⟨_,rfl⟩;obtain ⟨A1,hA1⟩:∃ A1,A1=(Qb st la b rj).ps:=⟨_,rfl⟩;rw [<- hA1] at p1 hAl ⊢;rw [<- hA2] at p1 hAl2;have hA12:A1.length=A2.length:=hAl.symm.trans hAl2;rw [hAl] at hl4 p1 hinv ⊢
  cases fst
  all_goals simp only
  all_goals repeat' (first|refine ZA rfl rfl rfl p1 ?_|refine ZE ?_|refine ZD ?_|refine ZF rfl ?_|refine ZU rfl rfl ?_|refine Zq rfl rfl ?_|refine ZB rfl ?_|refine ZC ?_|refine Z7 rfl rfl ?_|refine Qd rfl ?_|(refine Qe rfl rfl (fun _=>?_) (fun _=>?_)<;>try (exfalso;omega))|(refine Zl rfl rfl (fun _=>?_) (fun _=>?_)<;>try (exfalso;omega))|refine ZV rfl ?_|refine ZG rfl ?_|refine QK rfl rfl rfl rfl ?_|refine ZO rfl hl4 rfl rfl ?_|refine ZI ?_|refine ZJ ?_)
  all_goals try contradiction
  all_goals try (exfalso;omega)
  all_goals rw [hA12]
  all_goals repeat' (first|refine Yw rfl rfl h32 hj2 rfl rfl (hj3 _) (by decide) ?_|refine ZF rfl ?_|refine ZB rfl ?_|refine Zy ?_|refine Z8 ?_)
  all_goals rw [hA12,hA2] at hinv
  all_goals rw [hA2]
  all_goals exact ⟨(false,j+1,r2,ZN0 ρj it.rx rj.next,_),⟨rfl,rfl⟩,hinv _ rfl,by simp only;omega⟩
 ·obtain rfl:j=its.length:=by omega
  rw [List.drop_length,<- hhl,List.drop_length] at q3;obtain ⟨_,rfl,rfl⟩:=q3.nil_inv;rw [<- hhl,List.take_length] at q6;have hRt:=Zpb q1 hcl.symm;rw [hro] at hRt;obtain ⟨A1,hA1⟩:∃ A1,A1=(Qb st la b r').ps:=⟨_,rfl⟩;rw [<- hA1] at hRt hAl ⊢
  have hl4:∃ w,Lj[4]?=some (.arr 3 0 [.agg [.ptr la (b+5) 0 0 0,td,w]])/\(td=.nils\/∃ v,td=.ref A.length tx v its.length 0):=by
   rw [hAl,hA1,St.get_cur] at t1;refine ⟨_,(ZBo t1).1,?_⟩
   rcases t2 with ⟨_,w⟩|⟨_,w,_⟩
   ·exact .inl w
   ·refine .inr ⟨ver,?_⟩
    rw [w,hcl,Nat.sub_self]
  obtain ⟨w4,hl4,htd⟩:=hl4
  rw [<- hhl] at *
  have hl1:=(List.getElem?_eq_some_iff.1 q5).1;rw [hAl] at hRt htd ⊢
  rcases htd with rfl|⟨v,rfl⟩
  all_goals cases fst
  all_goals simp only
  all_goals repeat' (first|refine ZA rfl rfl rfl hRt ?_|refine ZE ?_|refine ZD ?_|refine ZF rfl ?_|refine ZU rfl rfl ?_|refine Zq rfl rfl ?_|refine ZB rfl ?_|refine ZC ?_|refine Z7 rfl rfl ?_|refine Qd rfl ?_|refine J7 rfl ?_|(refine Qe rfl rfl (fun _=>?_) (fun _=>?_)<;>try (exfalso;omega))|refine ZG rfl ?_|refine ZO rfl hl4 rfl rfl ?_|refine Zs ?_|refine Zd ?_|refine Zc rfl ?_|refine Zo ?_)
  all_goals try (exfalso;omega)
  all_goals refine Q7 q5 rfl rfl rfl rfl rfl ?_
  all_goals repeat' (first|refine ZE ?_|refine ZD ?_|refine ZF rfl ?_|refine ZB rfl ?_|refine ZC ?_|refine ZO rfl (List.getElem?_set_self hl1) rfl rfl ?_)
  all_goals refine Q7 (List.getElem?_set_self hl1) rfl rfl rfl rfl rfl ?_
  all_goals rw [List.set_set]
  all_goals repeat' (first|refine ZF rfl ?_|refine ZB rfl ?_|refine ZC ?_|refine ZQ ?_|refine ZL ?_)
  all_goals exact Zlv (ro:=ro) hA1 (.inr rfl) rfl (List.getElem?_set_self hl1) rfl ((jS (by omega)).trans q6) (by simp) rfl
end Go.Q15
namespace Go.QAbs
abbrev Cut1:=FuncId->Option (List AV->St->Option (AV × St))
def ShOk (T:Tab) (sh:Cut1):Prop:=∀ f o args st r,sh f=some o->o args st=some r->S T f args st=some r
def TLe (T T':Tab):Prop:=∀ f x,T f=some x->T' f=some x
theorem Zbw {T T':Tab} (h:TLe T T'):∀ n,Le (Qg T n) (Qg T' n)
 | 0=>fun _ _ _ _ q=>by simp [Qg] at q
 | n+1=>fun f _ _ _ q=>QW (fun x q=>h f x q) (fun x _ q=>by
  cases x with
  | pf pf=>exact ZJt (Zbw h n) (ZcN (Nat.le_refl n)) q
  | base o=>exact q) q
theorem Zlw {T T':Tab} (h:TLe T T'):Le (S T) (S T'):=fun f a st r q=>by
 obtain ⟨n,hn⟩:=S_iff.1 q;exact S_iff.2 ⟨n,Zbw h n _ _ _ _ hn⟩
theorem Zlx:∀ (A:List (Bool × List Blk)) (r:Bool × List Blk),pop (A++[r])=some (A,r)
 | [],r=>rfl
 | [a],r=>rfl
 | a::b::A,r=>by
  have:=Zlx (b::A) r
  rw [lC,lC,pop];rw [lC] at this;rw [this];rfl
theorem ZgD (v:AV) (st:St) (ro:Bool) (L:List Blk):Jo (v,⟨st.ps,ro,L⟩)=some (v,st):=by
 simp only [Jo,Zlx,oS,ZLY]
section
variable {k:List Fr} {Q:YO} {e:Env} {st:St} {keep:List Nat} {is:List PI} {d:Nat} {T:Tab}
theorem Zly {st':St} {f:Opd} {args:List Opd} {lv:Nat} {cs vs ws:List AV} {v:AV} (hf:Zf e f=some (.func (.yield lv) [] cs)) (ha:ZGB e args=some vs) (hw:ZZ (vs++cs)=ws) (hc:S T (yB+lv) ws st=some (v,st'))
 (h:Is (S T) is keep k Q ((d,v)::e) st'):Is (S T) (⟨some d,none,false,.call .norm f args⟩::is) keep k Q e st:=by
 refine Z4 (od:=some d) (v:=v) (st':=st') ?_ h;simp only [Zi,ZH hf,Y3 ha,ZAU,Q3,hw,hc]
theorem ZYT {nt:Nat} {rg:Rng} {args:List AV} {st':St} (hl:args.length=rg.ps.length+nt)
 (h:∀ A,A=st.ps->Ru (S T) rg.assign [] (fun x e s=>x=.norm/\Ru (S T) rg.body [] (fun x e s=>x=.norm/\s.A=st'.ps) e s) (ZLs rg.ps args (Qw 0 (args.drop rg.ps.length))) ⟨A,false,[]⟩):Xr (S T) itS nt rg args st=some (.bool true,st'):=by
 obtain ⟨x,e1,s1,h1,h2⟩:=(h _ rfl).h;obtain ⟨rfl,⟨x,e2,s2,h3,h4⟩⟩:=h2;obtain ⟨rfl,h5⟩:=h4;unfold Xr;rw [if_pos hl]
 have:st.push=⟨st.ps,false,[]⟩:=rfl
 rw [this,h1,oS];simp only [ZOS,h3,oS,Ze7];obtain ⟨A,ro,L⟩:=s2
 simp only at h5
 subst h5;exact ZgD _ _ _ _
theorem Zhv {OT:Nat->Orc} {nt:Nat} {rg:Rng} {g:FuncId} {first cap:List AV} {v:AV} {ro:Bool} {L:List Blk} {st2:St} (hg:Zf e rg.g=some (.func (.func g) first cap)) (hy:g<yB)
 (hc:OT (st.A.length+1) g (ZZ (first++[.func (.yield (st.A.length+1)) [] (ZHS nt e)]++cap)) ⟨st.ps,false,[]⟩=some (v,⟨st2.ps,ro,L⟩)):ZRQ OT nt rg e st=some (.norm,e,st2):=by
 unfold ZRQ;rw [ZH hg];simp only [if_pos hy]
 have:st.push=⟨st.ps,false,[]⟩:=rfl
 rw [this,hc,oS,Zja,ZgD,oS]
theorem Zpe {T0:Tab} {f:FuncId} {rf:RF} {args:List AV} {r:AV × St} (hT:T f=some (.base (rfO T0 rf)))
 (h:∀ A,A=st.ps->Ru (S T0) rf.pre [] (fun x e s=>(x=.ret/\Jh false rf.res (.ret,e,s)=some r)\/(x=.norm/\∃ s2,ZRQ (fun lv=>S (ZOT T0 lv (Xr (S T0) itS rf.nt rf.rng))) rf.nt rf.rng e s=some (.norm,e,s2)/\Ru (S T0) rf.post [] (fun x e s=>Jh false rf.res (x,e,s)=some r) e s2)) (Qw 0 args) ⟨A,false,[]⟩):S T f args st=some r:=by
 refine Zgv (o:=rfO T0 rf) hT ?_;obtain ⟨x,e1,s1,h1,h2⟩:=(h _ rfl).h;unfold rfO rfG ZJv
 have:st.push=⟨st.ps,false,[]⟩:=rfl
 rw [this,h1,oS]
 rcases h2 with ⟨rfl,h3⟩|⟨rfl,s2,h3,⟨x,e3,s3,h5,h6⟩⟩
 ·simp only [J8,oS];exact h3
 ·simp only [J8,h3,oS,h5];exact h6
end
theorem ZeH {T:Tab} (hT:∀ f x,T f=some x->f<yB) (lv:Nat) (o:List AV->St->Option (AV × St)):TLe T (ZOT T lv o):=fun f x hx=>by
 unfold ZOT;rw [if_neg]
 ·exact hx
 ·intro q;exact ZcX (hT f x hx) q
theorem ZeI (T:Tab) (lv:Nat) (o:List AV->St->Option (AV × St)) (args:List AV) (st:St) {r:AV × St} (h:o args st=some r):S (ZOT T lv o) (yB+lv) args st=some r :=
 Zgv (o:=o) (by unfold ZOT;rw [if_pos rfl]) h
end Go.QAbs
namespace Go.Q15
open Go Go.QAbs
set_option maxRecDepth 100000
set_option maxHeartbeats 8000000
def ZCn (N:ZP) (o:Nat):Nd:=(lk N o).getD ⟨0,[],none⟩
theorem JD {N:ZP} {o:Nat} {x:Nd} (h:lk N o=some x):ZCn N o=x:=by unfold ZCn;rw [h];rfl
def Qn (N:ZP):Nat->Nat->List Nat
 | 0,o=>[o]
 | n+1,o=>o::(ZCn N o).ks.flatMap fun k=>Qn N n k.at_
def ZgE (x:Nd):AV:=.agg [.int .i64 x.h,.str x.text,.lit (x.ks.map Kid.av),.int .i64 0]
theorem ZIu {s:St} {l i:Nat} {b:Blk} (h:s.get l i=some b) (more:List (Bool × List Blk)) (ro:Bool) (L:List Blk):St.get ⟨s.ps++more,ro,L⟩ l i=some b:=by
 have hl:=St.get_le h;have h1:=ZS (A:=s.ps) rfl (ro:=ro) (L:=L) h;unfold St.get at h1 ⊢
 have e1:l≠s.ps.length:=by simp;omega
 have e2:l≠(s.ps++more).length:=by simp;omega
 simp only [if_neg e1,if_neg e2] at h1 ⊢
 rw [jL (by simp;omega)]
 exact h1
theorem Rd.more {s:St} {lv ix:Nat} {N:ZP} (h:Rd s lv ix N) (more:List (Bool × List Blk)) (ro:Bool) (L:List Blk):Rd ⟨s.ps++more,ro,L⟩ lv ix N:=by
 obtain ⟨a0,a1,im,a3,a4,a5,h1,h2⟩:=h;exact ⟨a0,a1,im,a3,a4,a5,ZIu h1 _ _ _,ZIu h2 _ _ _⟩
theorem ZN2 {N:ZP} {h:Nat} {x:Nd} (hx:lk N h=some x) (hok:NdOk x) {n:Nat} (hh:x.h=n):Qn N n h=h::x.ks.flatMap fun k=>Qn N (n-1) k.at_:=by
 cases n with
 | zero =>
  have:x.ks=[]:=by
   rcases hok with q|⟨m,ks,q⟩
   ·exact q.ks
   ·have:=congrArg Nd.h q.eq;simp only at this;omega
  rw [this];rfl
 | succ n=>rw [Qn,JD hx];rfl
theorem Zlz {N:ZP} (hN:GoodN N):∀ (n h:Nat) (x:Nd),lk N h=some x->x.h=n->3*(Qn N n h).length+1<=4 ^ (n+1):=by
 intro n
 induction n with
 | zero=>intro h x hx hh;simp [Qn]
 | succ n ih =>
  intro h x hx hh;obtain ⟨hok,hk⟩:=hN h x hx;rw [Qn,JD hx,List.length_cons]
  have h6:4 ^ (n+1+1)=4*4 ^ (n+1):=by rw [Nat.pow_succ,Nat.mul_comm]
  rw [h6];clear h6
  have hP1:1<=4 ^ (n+1):=Nat.pow_pos (by decide)
  generalize 4 ^ (n+1)=P at *
  have key:∀ l:List Kid,(∀ k∈l,k∈x.ks)->3*(l.flatMap fun k=>Qn N n k.at_).length+l.length<=l.length*P:=by
   intro l
   induction l with
   | nil=>intro _;simp
   | cons k l ih2 =>
    intro hm
    obtain ⟨_,y,y1,y2,_⟩:=hk k (hm k (by simp))
    have h1:=ih k.at_ y y1 (by omega)
    have h2:=ih2 fun q hq=>hm q (by simp [hq])
    rw [List.flatMap_cons,lL,List.length_cons,Nat.add_mul,Nat.one_mul];omega
  have h1:=key x.ks fun _ h=>h
  have h4:=hok.len;have h5:x.ks.length*P<=4*P:=Nat.mul_le_mul_right _ h4
  rcases hok with q|⟨m,ks,q⟩
  ·have:=q.h;omega
  ·have e:=q.eq
   have h7:=q.lo;subst e;simp only [Nd.ks,Option.getD_some] at h1 h4 h5 ⊢;have h8:(4-ks.length)*1<=(4-ks.length)*P:=Nat.mul_le_mul_left _ hP1
   have h9:ks.length*P+(4-ks.length)*P=4*P:=by rw [<- Nat.add_mul];congr 1;omega
   omega
structure NW (σ:List Nat->St) (lv:Nat) (caps:List AV) (la b:Nat) (more:List (Bool × List Blk)) (ro:Bool) (L:List Blk) (l1 i1 l2 i2 l3 i3:Nat):Prop where
 a:∀ v,St.get ⟨(σ v).ps++more,ro,L⟩ l1 i1=some (.arr 1 0 [.ptr la (b+5) 0 0 0])
 y:∀ v,St.get ⟨(σ v).ps++more,ro,L⟩ l2 i2=some (.arr 1 0 [.func (.yield lv) [] caps])
 w:∀ v,St.get ⟨(σ v).ps++more,ro,L⟩ l3 i3=some (.arr 1 0 [.func (.func YL) [] [.ptr l1 i1 0 0 0,.ptr l2 i2 0 0 0,.ptr l3 i3 0 0 0]])
theorem NW.push {σ:List Nat->St} {lv:Nat} {caps:List AV} {la b:Nat} {more:List (Bool × List Blk)} {ro:Bool} {L:List Blk} {l1 i1 l2 i2 l3 i3:Nat} (h:NW σ lv caps la b more ro L l1 i1 l2 i2 l3 i3) (L':List Blk):NW σ lv caps la b (more++[(ro,L)]) false L' l1 i1 l2 i2 l3 i3 :=
 ⟨fun v=>ZS (st:=⟨(σ v).ps++more,ro,L⟩) (by rw [<- List.append_assoc]) (h.a v),fun v=>ZS (st:=⟨(σ v).ps++more,ro,L⟩) (by rw [<- List.append_assoc]) (h.y v),fun v=>ZS (st:=⟨(σ v).ps++more,ro,L⟩) (by rw [<- List.append_assoc]) (h.w v)⟩
theorem Zpf {TY:Tab} (hT:TLe Tb TY) {σ:List Nat->St} {N:ZP} (hN:GoodN N) {la b lv:Nat} {caps:List AV} (hcw:ZZ caps=caps) (hRd:∀ v,Rd (σ v) la (b+5) N) (hlen:∀ v,(σ v).A.length=(σ []).A.length)
 {B:Nat} (hy:∀ v h x more ro L,v.length<B->lk N h=some x->S TY (yB+lv) (.int .u64 (h:Nat)::ZgE x::caps) ⟨(σ v).ps++more,ro,L⟩=some (.bool true,⟨(σ (v++[h])).ps++more,ro,L⟩)) :
 ∀ n h x,lk N h=some x->x.h=n->∀ v more ro L l1 i1 l2 i2 l3 i3,v.length+(Qn N n h).length<=B->NW σ lv caps la b more ro L l1 i1 l2 i2 l3 i3 ->
  S TY YL [.int .u64 (h:Nat),.ptr l1 i1 0 0 0,.ptr l2 i2 0 0 0,.ptr l3 i3 0 0 0] ⟨(σ v).ps++more,ro,L⟩=some (.bool true,⟨(σ (v++Qn N n h)).ps++more,ro,L⟩):=by
 intro n
 induction n using Nat.strongRecOn with
 | ind n ih =>
  intro h x hx hh v more ro L l1 i1 l2 i2 l3 i3 hB hw;have hok:=(hN h x hx).1;rw [ZN2 hx hok hh,List.length_cons] at hB;have hkids:=(hN h x hx).2;have hk4:=hok.len
  refine ZBD (hT _ _ rfl) (fun A hA=>?_)
  have hA2:A=(σ v).ps++(more++[(ro,L)]):=by rw [hA,List.append_assoc]
  clear hA;subst hA2
  have hw2:=fun L'=>hw.push L'
  have hG:∀ v' L',S TY Qq [.ptr la (b+5) 0 0 0,.int .u64 h] ⟨(σ v').ps++(more++[(ro,L)]),false,L'⟩=some (.tup [.agg [.int .i64 x.h,.str x.text,.lit (x.ks.map Kid.av)],.int .i64 0],⟨(σ v').ps++(more++[(ro,L)]),false,L'⟩):=fun v' L'=>Zlw hT _ _ _ _ (Zft ((hRd v').more _ _ _) hx hk4)
  have hY:=fun L'=>hy v h x (more++[(ro,L)]) false L' (by omega) hx
  unfold ZgE at hY
  have hwk:ZZ ([AV.int .u64 h,.agg [.int .i64 x.h,.str x.text,.lit (x.ks.map Kid.av),.int .i64 0]]++caps)=.int .u64 h::.agg [.int .i64 x.h,.str x.text,.lit (x.ks.map Kid.av),.int .i64 0]::caps:=by
   simp only [lC,lE,ZZ,weak,hcw]
  repeat' (first|refine Zly rfl rfl hwk (hY _) ?_|refine ZE ?_|refine ZD ?_|refine ZF rfl ?_|refine ZU rfl rfl ?_|refine ZO rfl rfl rfl rfl ?_|refine QE rfl ?_|refine Zn rfl rfl rfl rfl ?_|refine Zq rfl rfl ?_|refine ZB rfl ?_|refine ZC ?_|(refine Zl rfl rfl (fun _=>?_) (fun _=>?_)<;>try (exfalso;omega))|refine ZG rfl ?_|refine QZ rfl rfl ?_|refine Zt rfl rfl rfl ?_|refine Ze rfl rfl rfl ?_|refine Zr rfl rfl rfl rfl rfl rfl ?_|refine Z9 rfl ((hw2 _).a v) rfl rfl ?_|refine Z9 rfl ((hw2 _).y v) rfl rfl ?_|refine ZA rfl rfl rfl (hG _ _) ?_|refine ZI ?_)
  all_goals try contradiction
  have hl2:∀ v v',((σ v).ps++(more++[(ro,L)])).length=((σ v').ps++(more++[(ro,L)])).length:=fun v v'=>by
   simp only [lL];rw [hlen v,hlen v'];rfl
  rw [hl2 v (v++[h])];rw [ZN2 hx hok hh]
  repeat' (first|refine ZF rfl ?_|refine ZO rfl rfl rfl rfl ?_|refine ZB rfl ?_|refine ZC ?_|refine QG rfl ?_|refine ZJ ?_)
  refine Zx (α:=Nat × List Blk) (fun p=>[(3,.ptr l3 i3 0 0 0),(28,.lit (x.ks.map Kid.av)),(29,.int .i64 x.ks.length),(30,.int .i64 p.1)])
   (fun p=>⟨(σ (v++h::(x.ks.take p.1).flatMap fun k=>Qn N (n-1) k.at_)).ps++(more++[(ro,L)]),false,.arr 3 0 [.agg [.int .i64 x.h,.str x.text,.lit (x.ks.map Kid.av)]]::p.2⟩) (fun p=>p.1<=x.ks.length) (fun p=>x.ks.length-p.1) (0,[]) rfl rfl (Nat.zero_le _) ?_
  rintro ⟨i,G⟩ hi
  simp only at hi ⊢
  rcases Nat.lt_or_ge i x.ks.length with hlt|hge
  ·obtain ⟨kd,hk'⟩:∃ k,x.ks[i]?=some k:=⟨x.ks[i]'(by omega),by simp [hlt]⟩
   obtain ⟨_,y,y1,y2,y3⟩:=hkids kd (jM hk')
   have hk1:0<=((i:Nat):Int)/\x.ks[((i:Nat):Int).toNat]?=some kd:=⟨by omega,by rw [show ((i:Nat):Int).toNat=i by omega];exact hk'⟩
   have ihk:=fun v' L' hb=>ih y.h (by omega) kd.at_ y y1 rfl v' _ _ L' l1 i1 l2 i2 l3 i3 hb (hw2 L')
   have hfin:(v++h::(x.ks.take i).flatMap fun k=>Qn N (n-1) k.at_)++Qn N y.h kd.at_=v++h::(x.ks.take (i+1)).flatMap fun k=>Qn N (n-1) k.at_:=by
    rw [Zb hk',List.flatMap_append,List.append_assoc,show n-1=y.h by omega]
    simp
   obtain ⟨v1,hv1⟩:∃ v1,v1=v++h::(x.ks.take i).flatMap fun k=>Qn N (n-1) k.at_:=⟨_,rfl⟩
   rw [<- hv1] at hfin ⊢
   have hb1:v1.length+(Qn N y.h kd.at_).length<=B:=by
    rw [<- lL,hfin,lL,List.length_cons]
    have h1:(x.ks.flatMap fun k=>Qn N (n-1) k.at_)=(x.ks.take (i+1)).flatMap (fun k=>Qn N (n-1) k.at_)++(x.ks.drop (i+1)).flatMap (fun k=>Qn N (n-1) k.at_):=by
     rw [<- List.flatMap_append,List.take_append_drop]
    have h2:=congrArg List.length h1;rw [lL] at h2;omega
   repeat' (first|refine JC rfl rfl hk1 (fun _=>rfl) ?_|refine ZA rfl rfl rfl (ihk v1 _ hb1) ?_|refine ZE ?_|refine ZD ?_|refine ZF rfl ?_|refine ZU rfl rfl ?_|refine ZB rfl ?_|refine ZC ?_|refine Q1 rfl rfl rfl ?_|refine QI rfl rfl ?_|(refine Zh rfl rfl (fun _=>?_) (fun _=>?_)<;>try (exfalso;omega))|refine ZV rfl ?_|refine ZG rfl ?_|refine QZ rfl rfl ?_|refine Zj rfl rfl (by omega) ?_|refine Z1 rfl rfl rfl ?_|refine Yr rfl rfl rfl rfl rfl rfl ?_|refine Z9 rfl ((hw2 _).w v1) rfl rfl ?_|refine ZI ?_|refine ZJ ?_|refine Zy ?_|refine Z8 ?_)
   refine ⟨(i+1,G++[Blk.arr 4 0 [kd.av]]),⟨rfl,?_⟩,by simp only;omega,by simp only;omega⟩
   rw [hfin];rfl
  ·obtain rfl:i=x.ks.length:=by omega
   rw [List.take_length]
   repeat' (first|refine ZE ?_|refine ZD ?_|refine ZF rfl ?_|refine ZB rfl ?_|refine ZC ?_|(refine Zh rfl rfl (fun _=>?_) (fun _=>?_)<;>try (exfalso;omega))|refine ZG rfl ?_|refine ZQ ?_|refine Zs ?_|refine ZL ?_|refine Zd ?_|refine Zc rfl ?_|refine Zo ?_)
   all_goals try (exfalso;omega)
   refine Zg (st:=⟨(σ _).ps++more,ro,L⟩) (by rw [<- List.append_assoc]) (.inr rfl) rfl rfl rfl rfl ?_
   rfl
theorem ZIv:∀ {l:List (FuncId × Ent)},(l.all fun p=>decide (p.1<yB))=true->∀ f x,ZAV l f=some x->f<yB
 | [],_,f,x,h=>by simp [ZAV] at h
 | p::l,ha,f,x,h=>by
  simp only [List.all_cons,Bool.and_eq_true,decide_eq_true_eq] at ha;simp only [ZAV] at h
  split at h
  ·rename_i e;rw [<- e];exact ha.1
  ·exact ZIv ha.2 f x h
theorem Zl0:∀ f x,Tb f=some x->f<yB:=ZIv (l:=tl) (by decide +kernel)
def RtOk (N:ZP) (r:Ro):Prop:=r=.zero\/(r.at_≠0/\∃ x,lk N r.at_=some x/\NdOk x/\x.h=r.h/\x.mea=r.m)
def Z5 (N:ZP) (r:Ro):List Nat:=if r.at_=0 then [] else Qn N r.h r.at_
theorem RtOk.h13 {N:ZP} (hN:GoodN N) {r:Ro} (hr:RtOk N r):r.h<=13:=by
 rcases hr with rfl|⟨h0,x,h1,h2,h3,h4⟩
 ·decide
 ·have hv:Val N (.keep r):=.kept h0 h1 h2 h3 h4 rfl
  have hb:(Tr.keep r).bytes=r.m.b:=by simp [Tr.keep,Tr.bytes,Tr.bytesO]
  have:=h2.mea_pos
  exact hv.height hN (by rw [hb,<- h4];omega)
theorem Xw {N:ZP} (hN:GoodN N) {r:Ro} (hr:RtOk N r):(Z5 N r).length<100000000:=by
 have h13:=hr.h13 hN;unfold Z5
 split
 ·simp
 ·rename_i q
  rcases hr with rfl|⟨h0,x,h1,h2,h3,h4⟩
  ·exact absurd rfl q
  ·have:=Zlz hN r.h r.at_ x h1 h3
   have h5:4 ^ (r.h+1)<=4 ^ 14:=Nat.pow_le_pow_right (by decide) (by omega)
   have h6:(4:Nat) ^ 14=268435456:=by decide
   omega
def Jm (r:Ro):Tr:=if r.at_=0 then .zero else .keep r
theorem ZJI {st:St} {lv ix:Nat} {N:ZP} (hr:Rd st lv ix N) {r:Ro} (h:RtOk N r):S Tb Jr [.ptr lv ix 0 0 0,r.av] st=some (.tup [(Jm r).av,.int .i64 0],st):=by
 unfold Jm
 rcases h with rfl|⟨h0,x,h1,h2,h3,h4⟩
 ·rw [if_pos (by rfl)];exact Zjo
 ·rw [if_neg h0];exact ZpN hr h1 h2 h0 h3 h4
theorem ZeJ {A:List (Bool × List Blk)} {L:List Blk} {la b:Nat} {r:Ro}:S Tb ZAG [.ptr la (b+5) 0 0 0,r.av] ⟨A,false,L⟩=some (.func (.func Qu) [] [.ptr A.length L.length 0 0 0,.ptr A.length (L.length+1) 0 0 0],⟨A,false,L++[.arr 1 0 [.ptr la (b+5) 0 0 0],.arr 5 0 [r.av]]⟩):=by
 refine ZAg rfl ?_
 have e0:(⟨A,false,L⟩:St)=⟨A,false,L++[]⟩:=by rw [lN]
 rw [e0];unfold Ro.av
 repeat' (first|refine Yv rfl rfl rfl rfl rfl ?_|refine ZE ?_|refine ZD ?_|refine ZF rfl ?_|refine ZB rfl ?_|refine ZC ?_|refine YY rfl rfl ?_|refine ZQ ?_|refine ZL ?_)
 refine (Yj (.inr rfl) rfl rfl rfl rfl).trans ?_;rfl
theorem ZgF {b a1 a2 a3 x1 x2 x3:Nat} {f:FuncId} (st:St) (h1:a1<b) (h2:a2<b) (h3:a3<b):ZY QD b st (.func (.func f) [] [.ptr a1 x1 0 0 0,.ptr a2 x2 0 0 0,.ptr a3 x3 0 0 0])=some (.func (.func f) [] [.ptr a1 x1 0 0 0,.ptr a2 x2 0 0 0,.ptr a3 x3 0 0 0],st):=by
 simp only [ZY,QD,ZeT,if_true,mapSt,oS,if_pos h1,if_pos h2,if_pos h3,Yf]
theorem Zl1 {TY:Tab} (hT:TLe Tb TY) {σ:List Nat->St} {N:ZP} (hN:GoodN N) {la b lv:Nat} {caps:List AV} (hcw:ZZ caps=caps) (hRd:∀ v,Rd (σ v) la (b+5) N) (hlen:∀ v,(σ v).A.length=(σ []).A.length)
 {B:Nat} (hy:∀ v h x more ro L,v.length<B->lk N h=some x->S TY (yB+lv) (.int .u64 (h:Nat)::ZgE x::caps) ⟨(σ v).ps++more,ro,L⟩=some (.bool true,⟨(σ (v++[h])).ps++more,ro,L⟩))
 {r:Ro} (hr:RtOk N r) (hB:(Z5 N r).length<=B) {l1 i1 l4 i4:Nat} (ha:∀ v,(σ v).get l1 i1=some (.arr 1 0 [.ptr la (b+5) 0 0 0])) (hro:∀ v,(σ v).get l4 i4=some (.arr 5 0 [r.av])) :
 S TY Qu [.func (.yield lv) [] caps,.ptr l1 i1 0 0 0,.ptr l4 i4 0 0 0] ⟨(σ []).ps,false,[]⟩=some (.tup [],⟨(σ (Z5 N r)).ps,false,[]⟩):=by
 refine ZBD (hT _ _ rfl) (fun A hA=>?_)
 have hA0:A=(σ []).ps++[(false,[])]:=hA
 have g4:∀ L,St.get ⟨A,false,L⟩ l4 i4=some (.arr 5 0 [r.av]):=fun L=>by rw [hA0];exact ZIu (hro []) _ _ _
 have l1l:l1<A.length+1:=by have:=St.get_le (ha []);rw [hA0];simp;omega
 unfold Ro.av at g4
 have hNW:∀ yv wv,yv=Blk.arr 1 0 [.func (.yield lv) [] caps]->wv=Blk.arr 1 0 [.func (.func YL) [] [.ptr l1 i1 0 0 0,.ptr A.length 0 0 0 0,.ptr A.length 1 0 0 0]]->NW σ lv caps la b [(false,[])] false [yv,wv] l1 i1 A.length 0 A.length 1:=by
  rintro yv wv rfl rfl
  have hl:∀ v,A.length=((σ v).ps++[(false,([]:List Blk))]).length:=fun v=>by rw [hA0];simp [hlen v]
  refine ⟨fun v=>ZIu (ha v) _ _ _,fun v=>?_,fun v=>?_⟩
  ·rw [hl v,St.get_cur];rfl
  ·rw [hl v,St.get_cur];rfl
 by_cases h0:r.at_=0
 ·have e:Z5 N r=[]:=by unfold Z5;rw [if_pos h0]
  rw [e]
  repeat' (first|refine ZE ?_|refine ZD ?_|refine ZU rfl rfl ?_|refine ZB rfl ?_|refine ZC ?_|(refine Zl rfl rfl (fun _=>?_) (fun _=>?_)<;>try (exfalso;omega))|refine ZG rfl ?_|refine YY rfl rfl ?_|refine Ze rfl rfl rfl ?_|refine Zr rfl rfl rfl (ZgF _ l1l (Nat.lt_succ_self _) (Nat.lt_succ_self _)) rfl rfl ?_|refine Z9 rfl (g4 _) rfl rfl ?_|refine ZI ?_|refine ZL ?_)
  all_goals try (exfalso;omega)
  refine Zg hA (.inl rfl) rfl rfl rfl rfl ?_;rfl
 ·have e:Z5 N r=Qn N r.h r.at_:=by unfold Z5;rw [if_neg h0]
  rw [e] at hB ⊢
  obtain ⟨x,h1,h2,h3,h4⟩:∃ x,lk N r.at_=some x/\NdOk x/\x.h=r.h/\x.mea=r.m:=by
   rcases hr with rfl|q
   ·exact absurd rfl h0
   ·exact q.2
  have hW:=Zpf hT hN hcw hRd hlen hy r.h r.at_ x h1 h3 [] [(false,[])] false _ l1 i1 A.length 0 A.length 1 (by simpa using hB) (hNW _ _ rfl rfl)
  rw [<- hA0,lE] at hW
  repeat' (first|refine ZA rfl rfl rfl hW ?_|refine ZE ?_|refine ZD ?_|refine ZU rfl rfl ?_|refine ZO rfl rfl rfl rfl ?_|refine ZB rfl ?_|refine ZC ?_|(refine Zl rfl rfl (fun _=>?_) (fun _=>?_)<;>try (exfalso;omega))|refine ZV rfl ?_|refine YY rfl rfl ?_|refine Ze rfl rfl rfl ?_|refine Zr rfl rfl rfl (ZgF _ l1l (Nat.lt_succ_self _) (Nat.lt_succ_self _)) rfl rfl ?_|refine Z9 rfl (g4 _) rfl rfl ?_|refine ZL ?_)
  all_goals try (exfalso;omega)
  refine Zg (st:=⟨(σ _).ps,false,[]⟩) rfl (.inl rfl) rfl rfl rfl rfl ?_;rfl
noncomputable def t1:List (FuncId × Ent):=(ZAF,.base (rfO Tb p_rope_Check))::tl
noncomputable def T1:Tab:=ZAV t1
theorem le1:TLe Tb T1:=fun g y hg=>by
 unfold T1 t1;simp only [ZAV];rw [if_neg]
 ·exact hg
 ·intro e;subst e
  have:ZAV tl ZAF=none:=by decide +kernel
  unfold Tb at hg;rw [this] at hg;simp at hg
theorem Zir {st:St} {la b:Nat} {N:ZP} (hN:GoodN N) (hR:Rd st la (b+5) N) {r:Ro} (hr:RtOk N r):S T1 ZAF [.ptr la (b+5) 0 0 0,r.av] st=some (.int .i64 0,st):=by
 refine Zpe (rf:=p_rope_Check) rfl (fun A hA=>?_)
 have hK:=fun L=>ZJI (hR.push hA (ro:=false) (L:=L)) hr
 have hNd:=fun L=>ZeJ (A:=A) (L:=L) (la:=la) (b:=b) (r:=r)
 obtain ⟨LF,hLF⟩:∃ LF:List Blk,LF=[.arr 5 0 [r.av],.arr 7 0 [(Jm r).av],.arr 1 0 [.int .i64 0],.arr 1 0 [.ptr la (b+5) 0 0 0],.arr 5 0 [r.av]]:=⟨_,rfl⟩
 have hseq:=fun (caps:List AV) (hcw:ZZ caps=caps) (o:List AV->St->Option (AV × St)) hy=>Zl1 (TY:=ZOT Tb (A.length+1) o) (ZeH Zl0 _ _) (σ:=fun _=>⟨A,false,LF⟩) hN (lv:=A.length+1) (caps:=caps) hcw (fun _=>hR.push hA) (fun _=>rfl) (B:=(Z5 N r).length) hy hr (Nat.le_refl _) (l1:=A.length) (i1:=3) (l4:=A.length) (i4:=4) (fun _=>by rw [St.get_cur,hLF];rfl) (fun _=>by rw [St.get_cur,hLF];rfl)
 unfold Ro.av at *
 repeat' (first|refine ZE ?_|refine ZD ?_|refine ZF rfl ?_|refine ZO rfl rfl rfl rfl ?_|refine Zq rfl rfl ?_|refine ZB rfl ?_|refine ZC ?_|(refine Zl rfl rfl (fun _=>?_) (fun _=>?_)<;>try (exfalso;omega))|refine ZG rfl ?_|refine Ze rfl rfl rfl ?_|refine Zr rfl rfl rfl rfl rfl rfl ?_|refine Zr rfl rfl rfl (QH _ _ _) (Qc _ _) rfl ?_|refine ZA rfl rfl (by first|rfl|(simp only [lE,lN,lC,ZZ,ZW,ZX];first|done|rfl)) (hK _) ?_|refine ZA rfl rfl (by first|rfl|(simp only [lE,lN,lC,ZZ,ZW,ZX];first|done|rfl)) (hNd _) ?_|refine ZI ?_|refine ZL ?_)
 all_goals try contradiction
 have hS:=hseq (ZHS 30 [(7,.ptr A.length 2 0 0 0),(21,.func (.func Qu) [] [.ptr A.length 3 0 0 0,.ptr A.length 4 0 0 0]),(23,.any)]) rfl (Xr (S Tb) itS p_rope_Check.nt p_rope_Check.rng) (fun v h x more ro L _ hx=>ZeI _ _ _ _ _ (ZYT rfl (fun A' hA'=>by
  unfold ZgE
  repeat' (first|refine ZD ?_|refine ZB rfl ?_|refine Ze rfl rfl rfl ?_|refine Zr rfl rfl rfl rfl rfl rfl ?_|refine ZL ?_)
  all_goals try (exfalso;omega)
  refine ⟨rfl,?_⟩
  repeat' (first|refine ZE ?_|refine ZD ?_|refine ZU rfl rfl ?_|refine ZO rfl rfl rfl rfl ?_|refine ZB rfl ?_|refine ZC ?_|(refine Zl rfl rfl (fun _=>?_) (fun _=>?_)<;>try (exfalso;omega))|refine ZG rfl ?_|refine ZI ?_|refine ZJ ?_|refine ZL ?_|refine Zy ?_)
  all_goals try contradiction
  exact ⟨rfl,hA'⟩)))
 rw [hLF] at hS
 refine .inr ⟨rfl,_,Zhv (g:=Qu) rfl (by decide) hS,?_⟩
 repeat' (first|refine ZE ?_|refine ZD ?_|refine ZF rfl ?_|refine ZO rfl rfl rfl rfl ?_|refine ZB rfl ?_|refine ZC ?_|refine ZI ?_|refine ZQ ?_|refine ZL ?_)
 refine Zg hA (by first|exact .inl rfl|exact .inr rfl) rfl rfl rfl rfl ?_
 rfl
end Go.Q15
namespace Go.QAbs
theorem ZBz {s:St} {l i:Nat} {b:Blk} (h:s.get l i=some b) (more:List (Bool × List Blk)) (ro:Bool) (L:List Blk):St.get ⟨s.ps++more,ro,L⟩ l i=some b:=by
 have hl:=St.get_le h;have h1:=ZS (A:=s.ps) rfl (ro:=ro) (L:=L) h;unfold St.get at h1 ⊢
 have e1:l≠s.ps.length:=by simp;omega
 have e2:l≠(s.ps++more).length:=by simp;omega
 simp only [if_neg e1,if_neg e2] at h1 ⊢
 rw [jL (by simp;omega)]
 exact h1
theorem Zis {s:St} {lv:Nat} (hl:lv<=s.A.length) (h:s.wr lv) (more:List (Bool × List Blk)) (ro:Bool) (L:List Blk):St.wr ⟨s.ps++more,ro,L⟩ lv:=by
 have h1:=XG (A:=s.ps) rfl hl h (ro:=ro) (L:=L);unfold St.wr at h1 ⊢
 have e1:lv≠s.ps.length:=by simp;omega
 have e2:lv≠(s.ps++more).length:=by simp;omega
 simp only [if_neg e1,if_neg e2] at h1 ⊢
 rw [jL (by simp;omega)]
 exact h1
theorem ZgG {s:St} {lv ix:Nat} {b:Blk} (hl:lv<=s.A.length) (more:List (Bool × List Blk)) (ro:Bool) (L:List Blk):St.upd ⟨s.ps++more,ro,L⟩ lv ix b=⟨(s.upd lv ix b).ps++more,ro,L⟩:=by
 have h1:=Jj (A:=s.ps) (ro:=ro) (L:=L) rfl hl (ix:=ix) (b:=b);unfold St.upd at h1 ⊢
 have e1:lv≠s.ps.length:=by simp;omega
 have e2:lv≠(s.ps++more).length:=by simp;omega
 simp only [if_neg e1,if_neg e2] at h1 ⊢;simp only [St.mk.injEq,and_true] at h1 ⊢
 rw [jL (by simp;omega),List.set_append_left _ _ (by simp;omega),h1]
theorem ZJJ:∀ {ks:List (Nat × Nat)} {s:St} {bs:List Blk} {more:List (Bool × List Blk)} {ro:Bool} {L:List Blk},(∀ k∈ks,k.1<=s.A.length)->Jl ⟨s.ps++more,ro,L⟩ ks bs=⟨(Jl s ks bs).ps++more,ro,L⟩
 | [],_,bs,_,_,_,_=>by cases bs<;>rfl
 | _::_,_,[],_,_,_,_=>rfl
 | k::ks,s,b::bs,more,ro,L,hk=>by
  rw [Jl,ZgG (hk k (by simp)),ZJJ (s:=s.upd k.1 k.2 b) (fun q hq=>by rw [St.upd_A];exact hk q (by simp [hq]))]
  rfl
theorem Cl.more {s:St} {ks:List (Nat × Nat)} {bs:List Blk} (h:Cl s ks bs) (more:List (Bool × List Blk)) (ro:Bool) (L:List Blk):Cl ⟨s.ps++more,ro,L⟩ ks bs :=
 ⟨h.nd,h.len,fun k hk=>Zis (h.le k hk) (h.wr k hk) _ _ _,fun j lv ix b h1 h2=>ZBz (h.get j lv ix b h1 h2) _ _ _⟩
end Go.QAbs
namespace Go.Q15
open Go Go.QAbs
set_option maxRecDepth 100000
set_option maxHeartbeats 8000000
theorem ZgH:∀ f x,T1 f=some x->f<yB:=ZIv (l:=t1) (by decide +kernel)
noncomputable def t3:List (FuncId × Ent):=(ZDT,.base (rfO T1 p_rope_Leaves))::(ZAE,.base (rfO T1 p_rope_Nodes))::t1
noncomputable def T3:Tab:=ZAV t3
theorem ZYU {l:List (FuncId × Ent)} {f:FuncId} {x:Ent} (h:ZAV l f=none):TLe (ZAV l) (ZAV ((f,x)::l)):=fun g y hg=>by
 simp only [ZAV];rw [if_neg]
 ·exact hg
 ·intro e;subst e;rw [h] at hg;simp at hg
theorem le13:TLe T1 T3:=fun g y hg=>ZYU (l:=(ZAE,.base (rfO T1 p_rope_Nodes))::t1) (by decide +kernel) g y (ZYU (l:=t1) (by decide +kernel) g y hg)
theorem le3:TLe Tb T3:=fun g y hg=>le13 g y (le1 g y hg)
theorem up3 {f:FuncId} {args:List AV} {st:St} {r:AV × St} (h:S Tb f args st=some r):S T3 f args st=some r:=Zlw le3 _ _ _ _ h
theorem up1 {f:FuncId} {args:List AV} {st:St} {r:AV × St} (h:S Tb f args st=some r):S T1 f args st=some r:=Zlw le1 _ _ _ _ h
def QO (N:ZP) (v:List Nat):List (List UInt8):=v.filterMap fun h=>if (ZCn N h).h=0 then some (ZCn N h).text else none
theorem ZbB (N:ZP) (v:List Nat) (h:Nat):QO N (v++[h])=QO N v++if (ZCn N h).h=0 then [(ZCn N h).text] else []:=by
 unfold QO;rw [List.filterMap_append]
 by_cases q:(ZCn N h).h=0<;>simp [q]
theorem ZkB (l:List (List UInt8)):Q2 1 (l.map AV.str)=true:=by
 induction l with
 | nil=>rfl
 | cons b s ih=>rw [jC,Q2,List.all_cons];exact Bool.and_eq_true_iff.2 ⟨rfl,ih⟩
theorem ZkC (n b:Nat) (st:St) (l:List (List UInt8)):mapSt (ZY (n+1) b) st (l.map AV.str)=some (l.map AV.str,st):=by
 induction l with
 | nil=>rfl
 | cons x s ih =>
  rw [jC,mapSt]
  show ((some (AV.str x,st)).bind fun r=>(mapSt (ZY (n+1) b) r.2 (s.map AV.str)).bind (Yf r.1))=_
  rw [oS,ih];rfl
def lvL (A:List (Bool × List Blk)) (la b:Nat) (r:Ro) (es:List AV):List Blk:=[.arr 5 0 [r.av],.arr 1 es.length es,.arr 1 0 [.ref A.length 1 es.length 0 es.length],.arr 1 0 [.ptr la (b+5) 0 0 0],.arr 5 0 [r.av]]
def lvF (A:List (Bool × List Blk)) (N:ZP) (la b:Nat) (r:Ro) (v:List Nat):St:=⟨A,false,lvL A la b r ((QO N v).map .str)⟩
theorem ZqE (A:List (Bool × List Blk)) (la b:Nat) (r:Ro) (es:List AV):Cl ⟨A,false,lvL A la b r es⟩ [(A.length,1),(A.length,2)] [.arr 1 es.length es,.arr 1 0 [.ref A.length 1 es.length 0 es.length]]:=by
 refine ⟨by simp,rfl,fun k hk=>?_,fun j lv ix b h1 h2=>?_⟩
 ·simp only [List.mem_cons,List.not_mem_nil,or_false] at hk
  rcases hk with rfl|rfl<;>simp [St.wr]
 ·match j,h1,h2 with
  | 0,h1,h2=>obtain ⟨rfl,rfl⟩:=Prod.mk.inj (Option.some.inj h1);obtain rfl:=Option.some.inj h2;exact St.get_cur ..
  | 1,h1,h2=>obtain ⟨rfl,rfl⟩:=Prod.mk.inj (Option.some.inj h1);obtain rfl:=Option.some.inj h2;exact St.get_cur ..
  | n+2,h1,h2=>simp at h1
theorem Zpg (A:List (Bool × List Blk)) (la b:Nat) (r:Ro) (es fs:List AV):Jl ⟨A,false,lvL A la b r es⟩ [(A.length,1),(A.length,2)] [.arr 1 fs.length fs,.arr 1 0 [.ref A.length 1 fs.length 0 fs.length]]=⟨A,false,lvL A la b r fs⟩:=by
 simp [Jl,St.upd,lvL]
theorem Zl2 {N:ZP} {A:List (Bool × List Blk)} {la b:Nat} {r:Ro} {caps:List AV} (hc7:∃ rest,caps=.any::.any::.any::.any::.any::.any::.any::.ptr A.length 2 0 0 0::rest/\rest.length=24) (v:List Nat) (hlim:(QO N v).length<4000000000) (h:Nat) (x:Nd) (more:List (Bool × List Blk)) (ro:Bool) (L:List Blk) (hx:lk N h=some x) :
 Xr (S T1) itS p_rope_Leaves.nt p_rope_Leaves.rng (.int .u64 (h:Nat)::ZgE x::caps) ⟨(lvF A N la b r v).ps++more,ro,L⟩=some (.bool true,⟨(lvF A N la b r (v++[h])).ps++more,ro,L⟩):=by
 obtain ⟨rest,rfl,hrl⟩:=hc7;have hs:=ZbB N v h;have hnd:=JD hx;rw [hnd] at hs;unfold lvF
 have hel:((QO N v).map AV.str).length=(QO N v).length:=List.length_map ..
 rw [hs,List.map_append];rw [<- hel] at hlim
 generalize (QO N v).map AV.str=es at *
 have H:=(ZqE A la b r es).more more ro L
 refine ZYT (by simp [hrl];rfl) (fun A' hA'=>?_)
 rw [<- H.same] at hA'
 have g2:=fun L'=>H.old hA' rfl rfl (ro:=false) (L:=L') (j:=1) rfl rfl
 unfold ZgE
 repeat' (first|refine ZD ?_|refine ZB rfl ?_|refine Ze rfl rfl rfl ?_|refine Zr rfl rfl rfl rfl rfl rfl ?_|refine ZL ?_)
 all_goals try (exfalso;omega)
 all_goals refine ⟨rfl,?_⟩
 all_goals repeat' (first|refine ZE ?_|refine ZD ?_|refine ZU rfl rfl ?_|refine ZO rfl rfl rfl rfl ?_|refine ZB rfl ?_|refine ZC ?_|(refine Zp rfl rfl (fun _=>?_) (fun _=>?_)<;>try (exfalso;omega))|refine ZV rfl ?_|refine ZG rfl ?_|refine QK rfl rfl rfl rfl ?_|refine Z9 rfl (g2 _) rfl rfl ?_|refine ZI ?_|refine ZJ ?_|refine ZL ?_|refine Zy ?_)
 ·rename_i hz
  have hz':x.h=0:=by omega
  refine Zd3 H hA' rfl rfl (j:=0) rfl rfl rfl rfl rfl rfl (ZkC 5 _ _ [x.text]) (by simp only [List.length_singleton];omega) (by decide) (fun A2 hA2 hl2=>?_)
  refine Zhb H hA2 rfl rfl (j:=1) rfl rfl rfl rfl rfl (JP _ (Nat.lt_succ_self _)) rfl (fun A3 hA3 hl3=>?_)
  repeat' (first|refine ZB rfl ?_|refine ZL ?_|refine Zy ?_)
  refine ⟨rfl,hA3.trans ?_⟩;have e:=Zpg A la b r es (es++[.str x.text]);rw [if_pos hz',jC,List.map_nil,<- e]
  rw [<- ZJJ (fun k hk=>by simp only [List.mem_cons,List.not_mem_nil,or_false] at hk;rcases hk with rfl|rfl<;>exact Nat.le_refl _)]
  simp only [lL,List.length_singleton];rfl
 ·rename_i hz
  have hz':¬ x.h=0:=by omega
  refine ⟨rfl,hA'.trans ?_⟩;rw [H.same,if_neg hz',List.map_nil,lN]
theorem ZN3 (N:ZP) (v:List Nat):(QO N v).length<=v.length:=List.length_filterMap_le _ _
theorem Zl3 {st:St} {la b:Nat} {N:ZP} (hN:GoodN N) (hR:Rd st la (b+5) N) {r:Ro} (hr:RtOk N r):S T3 ZDT [.ptr la (b+5) 0 0 0,r.av] st=some (.tup [.lit ((QO N (Z5 N r)).map .str),.int .i64 0],st):=by
 refine Zpe (rf:=p_rope_Leaves) rfl (fun A hA=>?_)
 have hK:=fun L=>Zir hN (hR.push hA (ro:=false) (L:=L)) hr
 have hNd:=fun L=>up1 (ZeJ (A:=A) (L:=L) (la:=la) (b:=b) (r:=r))
 have hlen:=Xw hN hr
 have hseq:=fun (caps:List AV) (hcw:ZZ caps=caps) (o:List AV->St->Option (AV × St)) hy=>Zl1 (TY:=ZOT T1 (A.length+1) o) (fun g y hg=>ZeH ZgH _ _ g y (le1 g y hg)) (σ:=lvF A N la b r) hN (lv:=A.length+1) (caps:=caps) hcw (fun _=>hR.push hA) (fun _=>rfl) (B:=100000000) hy hr (by omega) (l1:=A.length) (i1:=3) (l4:=A.length) (i4:=4) (fun _=>St.get_cur ..) (fun _=>St.get_cur ..)
 have hS:=hseq (ZHS 32 [(7,.ptr A.length 2 0 0 0),(18,.func (.func Qu) [] [.ptr A.length 3 0 0 0,.ptr A.length 4 0 0 0]),(20,.any)]) rfl (Xr (S T1) itS p_rope_Leaves.nt p_rope_Leaves.rng) (fun v h x more ro L hv hx=>ZeI _ _ _ _ _ (Zl2 ⟨_,rfl,rfl⟩ v (by have:=ZN3 N v;omega) h x more ro L hx))
 unfold lvF at hS;have hl0:(QO N (Z5 N r)).map AV.str=(QO N (Z5 N r)).map AV.str:=rfl
 generalize hes:QO N (Z5 N r)=l at *
 have e0:lvL A la b r ((QO N []).map .str)=lvL A la b r []:=rfl;rw [e0] at hS;unfold lvL at hS
 unfold Ro.av at *
 repeat' (first|refine ZE ?_|refine ZD ?_|refine ZF rfl ?_|refine ZO rfl rfl rfl rfl ?_|refine ZB rfl ?_|refine ZC ?_|(refine Zl rfl rfl (fun _=>?_) (fun _=>?_)<;>try (exfalso;omega))|refine ZG rfl ?_|refine Ze rfl rfl rfl ?_|refine ZBv rfl ?_|refine ZA rfl rfl rfl (hK _) ?_|refine ZA rfl rfl rfl (hNd _) ?_|refine ZI ?_|refine ZL ?_)
 all_goals try contradiction
 refine .inr ⟨rfl,_,Zhv (g:=Qu) rfl (by decide) hS,?_⟩
 repeat' (first|refine ZE ?_|refine ZD ?_|refine ZF rfl ?_|refine ZO rfl rfl rfl rfl ?_|refine ZB rfl ?_|refine ZC ?_|refine ZI ?_|refine ZQ ?_|refine ZL ?_)
 exact ZDo hA (.inr rfl) rfl rfl rfl (fun v hv=>by obtain ⟨x,_,rfl⟩:=List.mem_map.1 hv;rfl) rfl rfl
def QL (w:List Nat) (h:Nat):List Nat:=if h∈w then w else w++[h]
def QR (v:List Nat):List Nat:=v.foldl QL []
theorem ZLS (v:List Nat) (h:Nat):QR (v++[h])=QL (QR v) h:=by unfold QR;rw [List.foldl_append];rfl
theorem Zbx {w:List Nat} {h x:Nat}:x∈QL w h↔x∈w\/x=h:=by
 unfold QL
 split
 ·rename_i q;exact ⟨.inl,fun p=>p.elim id fun e=>e▸q⟩
 ·simp
theorem Ye:∀ v:List Nat,(QR v).Nodup/\(∀ x,x∈QR v↔x∈v)/\(QR v).length<=v.length:=by
 intro v
 have key:∀ (v w:List Nat),w.Nodup->(v.foldl QL w).Nodup/\(∀ x,x∈v.foldl QL w↔x∈w\/x∈v)/\(v.foldl QL w).length<=w.length+v.length:=by
  intro v
  induction v with
  | nil=>intro w h;exact ⟨h,by simp,by simp⟩
  | cons a v ih =>
   intro w h
   have h1:(QL w a).Nodup:=by
    unfold QL;split
    ·exact h
    ·rename_i q
     rw [List.nodup_append]
     refine ⟨h,by simp,fun x hx y hy=>?_⟩
     rw [List.mem_singleton] at hy;intro e;rw [e,hy] at hx;exact q hx
   obtain ⟨i1,i2,i3⟩:=ih (QL w a) h1
   refine ⟨i1,fun x=>?_,?_⟩
   ·rw [List.foldl_cons,i2,Zbx,List.mem_cons,or_assoc]
   ·have:(QL w a).length<=w.length+1:=by unfold QL;split<;>simp
    rw [List.foldl_cons,List.length_cons];omega
 have:=key v [] List.nodup_nil
 exact ⟨this.1,fun x=>by have h:=this.2.1 x;simpa [QR] using h,by have h:=this.2.2;simpa [QR] using h⟩
def ndL (A:List (Bool × List Blk)) (la b:Nat) (r:Ro) (w:List Nat):List Blk:=[.arr 5 0 [r.av],.arr 1 w.length (w.map Zu),.arr 1 0 [.ref A.length 1 w.length 0 w.length],.map (YD w),.arr 1 0 [.map A.length 3],.arr 1 0 [.ptr la (b+5) 0 0 0],.arr 5 0 [r.av]]
def ndF (A:List (Bool × List Blk)) (la b:Nat) (r:Ro) (v:List Nat):St:=⟨A,false,ndL A la b r (QR v)⟩
def ndK (A:List (Bool × List Blk)):List (Nat × Nat):=[(A.length,1),(A.length,2),(A.length,3)]
def ndB (A:List (Bool × List Blk)) (w:List Nat):List Blk:=[.arr 1 w.length (w.map Zu),.arr 1 0 [.ref A.length 1 w.length 0 w.length],.map (YD w)]
theorem ZqF (A:List (Bool × List Blk)) (la b:Nat) (r:Ro) (w:List Nat):Cl ⟨A,false,ndL A la b r w⟩ (ndK A) (ndB A w):=by
 refine ⟨by simp [ndK],rfl,fun k hk=>?_,fun j lv ix b h1 h2=>?_⟩
 ·simp only [ndK,List.mem_cons,List.not_mem_nil,or_false] at hk
  rcases hk with rfl|rfl|rfl<;>simp [St.wr]
 ·match j,h1,h2 with
  | 0,h1,h2=>obtain ⟨rfl,rfl⟩:=Prod.mk.inj (Option.some.inj h1);obtain rfl:=Option.some.inj h2;exact St.get_cur ..
  | 1,h1,h2=>obtain ⟨rfl,rfl⟩:=Prod.mk.inj (Option.some.inj h1);obtain rfl:=Option.some.inj h2;exact St.get_cur ..
  | 2,h1,h2=>obtain ⟨rfl,rfl⟩:=Prod.mk.inj (Option.some.inj h1);obtain rfl:=Option.some.inj h2;exact St.get_cur ..
  | n+3,h1,h2=>simp [ndK] at h1
theorem Zph (A:List (Bool × List Blk)) (la b:Nat) (r:Ro) (w u:List Nat):Jl ⟨A,false,ndL A la b r w⟩ (ndK A) (ndB A u)=⟨A,false,ndL A la b r u⟩:=by
 simp [Jl,St.upd,ndL,ndK,ndB]
theorem Zl4 {N:ZP} {A:List (Bool × List Blk)} {la b:Nat} {r:Ro} {caps:List AV} (hc7:∃ rest,caps=.any::.any::.any::.any::.any::.any::.any::.ptr A.length 2 0 0 0::.ptr A.length 4 0 0 0::rest/\rest.length=24) (v:List Nat) (hlim:(QR v).length<4000000000) (h:Nat) (x:Nd) (more:List (Bool × List Blk)) (ro:Bool) (L:List Blk) (hx:lk N h=some x) :
 Xr (S T1) itS p_rope_Nodes.nt p_rope_Nodes.rng (.int .u64 (h:Nat)::ZgE x::caps) ⟨(ndF A la b r v).ps++more,ro,L⟩=some (.bool true,⟨(ndF A la b r (v++[h])).ps++more,ro,L⟩):=by
 obtain ⟨rest,rfl,hrl⟩:=hc7;unfold ndF;rw [ZLS]
 generalize QR v=w at *
 have hwl:(w.map Zu).length=w.length:=List.length_map ..
 have H:=(ZqF A la b r w).more more ro L
 refine ZYT (by simp [hrl];rfl) (fun A' hA'=>?_)
 rw [<- H.same] at hA'
 have g2:=fun L'=>H.old hA' rfl rfl (ro:=false) (L:=L') (j:=1) rfl rfl
 have g3:=fun L'=>H.old hA' rfl rfl (ro:=false) (L:=L') (j:=2) rfl rfl
 have g4:∀ L',St.get ⟨A',false,L'⟩ A.length 4=some (.arr 1 0 [.map A.length 3]):=fun L'=>by
  rw [hA',H.same];exact ZS rfl (ZIu (s:=⟨A,false,ndL A la b r w⟩) (St.get_cur ..) more ro L)
 have hlk:=fun L'=>ZF7 (g3 L') h
 unfold ZgE
 by_cases hm:h∈w
 ·simp only [decide_eq_true hm] at hlk
  repeat' (first|refine ZD ?_|refine ZF rfl ?_|refine ZB rfl ?_|refine ZL ?_)
  refine ⟨rfl,?_⟩
  repeat' (first|refine ZE ?_|refine ZD ?_|refine ZF rfl ?_|refine ZB rfl ?_|refine ZC ?_|refine ZG rfl ?_|refine QZ rfl rfl ?_|refine Z9 rfl (g4 _) rfl rfl ?_|refine XH rfl rfl (hlk _) ?_|refine ZI ?_|refine ZJ ?_|refine ZL ?_|refine Zy ?_)
  all_goals try contradiction
  refine ⟨rfl,hA'.trans ?_⟩;rw [H.same];unfold QL;rw [if_pos hm]
 ·simp only [decide_eq_false hm] at hlk
  repeat' (first|refine ZD ?_|refine ZF rfl ?_|refine ZB rfl ?_|refine ZL ?_)
  refine ⟨rfl,?_⟩
  repeat' (first|refine ZE ?_|refine ZD ?_|refine ZF rfl ?_|refine ZB rfl ?_|refine ZC ?_|refine ZV rfl ?_|refine QZ rfl rfl ?_|refine Z9 rfl (g4 _) rfl rfl ?_|refine XH rfl rfl (hlk _) ?_|refine ZJ ?_)
  all_goals try contradiction
  refine ZlV H hA' rfl rfl (j:=2) rfl rfl rfl rfl rfl rfl rfl (ZN1 h w hm) (fun A2 hA2 hl2=>?_)
  have k2:=fun L'=>H.old hA2 rfl rfl (ro:=false) (L:=L') (j:=1) rfl rfl
  repeat' (first|refine Z9 rfl (k2 _) rfl rfl ?_|refine ZD ?_|refine ZF rfl ?_|refine ZB rfl ?_|refine ZC ?_|refine QK rfl rfl rfl rfl ?_)
  refine Zd3 (es:=w.map Zu) (ys:=[.int .u64 h]) H hA2 rfl rfl (j:=0) rfl rfl (by rw [hwl];rfl) rfl rfl rfl rfl (by rw [hwl,List.length_singleton];omega) (by decide) (fun A3 hA3 hl3=>?_)
  refine Zhb H hA3 rfl rfl (j:=1) rfl rfl rfl rfl rfl (JP _ (Nat.lt_succ_self _)) rfl (fun A4 hA4 hl4=>?_)
  repeat' (first|refine ZB rfl ?_|refine ZL ?_|refine Zy ?_)
  refine ⟨rfl,hA4.trans ?_⟩;have e:=Zph A la b r w (w++[h]);unfold QL;rw [if_neg hm,<- e]
  rw [<- ZJJ (fun k hk=>by simp only [ndK,List.mem_cons,List.not_mem_nil,or_false] at hk;rcases hk with rfl|rfl|rfl<;>exact Nat.le_refl _)]
  simp only [ndB,lL,List.length_singleton,List.length_map,List.map_append];rfl
theorem Zit {st:St} {la b:Nat} {N:ZP} (hN:GoodN N) (hR:Rd st la (b+5) N) {r:Ro} (hr:RtOk N r):S T3 ZAE [.ptr la (b+5) 0 0 0,r.av] st=some (.tup [.lit ((QR (Z5 N r)).map Zu),.int .i64 0],st):=by
 refine Zpe (rf:=p_rope_Nodes) rfl (fun A hA=>?_)
 have hK:=fun L=>Zir hN (hR.push hA (ro:=false) (L:=L)) hr
 have hNd:=fun L=>up1 (ZeJ (A:=A) (L:=L) (la:=la) (b:=b) (r:=r))
 have hlen:=Xw hN hr
 have hseq:=fun (caps:List AV) (hcw:ZZ caps=caps) (o:List AV->St->Option (AV × St)) hy=>Zl1 (TY:=ZOT T1 (A.length+1) o) (fun g y hg=>ZeH ZgH _ _ g y (le1 g y hg)) (σ:=ndF A la b r) hN (lv:=A.length+1) (caps:=caps) hcw (fun _=>hR.push hA) (fun _=>rfl) (B:=100000000) hy hr (by omega) (l1:=A.length) (i1:=5) (l4:=A.length) (i4:=6) (fun _=>St.get_cur ..) (fun _=>St.get_cur ..)
 have hS:=hseq (ZHS 33 [(7,.ptr A.length 2 0 0 0),(8,.ptr A.length 4 0 0 0),(19,.func (.func Qu) [] [.ptr A.length 5 0 0 0,.ptr A.length 6 0 0 0]),(20,.any)]) rfl (Xr (S T1) itS p_rope_Nodes.nt p_rope_Nodes.rng) (fun v h x more ro L hv hx=>ZeI _ _ _ _ _ (Zl4 ⟨_,rfl,rfl⟩ v (by have:=(Ye v).2.2;omega) h x more ro L hx))
 unfold ndF at hS
 generalize hes:QR (Z5 N r)=l at *
 have e0:ndL A la b r (QR [])=ndL A la b r []:=rfl;rw [e0] at hS;unfold ndL at hS
 unfold Ro.av at *
 repeat' (first|refine ZE ?_|refine ZD ?_|refine ZF rfl ?_|refine ZO rfl rfl rfl rfl ?_|refine ZB rfl ?_|refine ZC ?_|(refine Zl rfl rfl (fun _=>?_) (fun _=>?_)<;>try (exfalso;omega))|refine ZG rfl ?_|refine Ze rfl rfl rfl ?_|refine ZBv rfl ?_|refine ZB9 rfl ?_|refine ZA rfl rfl rfl (hK _) ?_|refine ZI ?_)
 all_goals try contradiction
 refine Zr rfl rfl rfl (by simp only [ZY,QD,if_pos (Nat.lt_succ_self _)]) rfl rfl ?_
 repeat' (first|refine ZE ?_|refine ZD ?_|refine ZF rfl ?_|refine ZO rfl rfl rfl rfl ?_|refine ZB rfl ?_|refine ZC ?_|refine ZA rfl rfl rfl (hNd _) ?_|refine ZI ?_|refine ZL ?_)
 refine .inr ⟨rfl,_,Zhv (g:=Qu) rfl (by decide) hS,?_⟩
 repeat' (first|refine ZE ?_|refine ZD ?_|refine ZF rfl ?_|refine ZO rfl rfl rfl rfl ?_|refine ZB rfl ?_|refine ZC ?_|refine ZI ?_|refine ZQ ?_|refine ZL ?_)
 exact ZDo hA (.inr rfl) rfl rfl (by simp) (fun v hv=>by obtain ⟨x,_,rfl⟩:=List.mem_map.1 hv;rfl) rfl rfl
theorem ZgI:∀ l:List Tr,(∀ t∈l,4*(t.cnt:Int)+4<=t.bytes)->4*(Tr.cntL l:Int)+4*l.length<=Tr.bytesL l
 | [],_=>by simp [Tr.cntL,Tr.bytesL]
 | t::l,h=>by
  have h1:=h t (by simp)
  have h2:=ZgI l fun u hu=>h u (by simp [hu])
  simp only [Tr.cntL,Tr.bytesL,List.length_cons];omega
theorem Zl5 {N:ZP} (hN:GoodN N) {t:Tr} (hv:Val N t):(t.cnt:Int)<=t.bytes/\(Big t->4*(t.cnt:Int)+4<=t.bytes):=by
 have hsz:=hv.size hN;have hps:=hv.pos.2
 induction hv with
 | @kept o h m k x h0 hx hok hh hm hk =>
  have ec:(Tr.mk o h m [] k).cnt=0:=by rw [Tr.cnt,Tr.cntO_getD,hk,if_neg h0];rfl
  have hl:h<=16:=by
   rcases hok with q|⟨n,ks,q⟩
   ·rw [<- hh,q.h];omega
   ·have:=q.n15;have e:=q.eq;subst e;simp only at hh;omega
  rw [ec]
  refine ⟨by omega,fun q=>?_⟩
  have h1:=hsz q;have h2:=(ZEf hl).1;simp only [Tr.h] at h1;omega
 | @leaf s k h1 h2 hk =>
  have ec:(Tr.mk 0 0 .zero s k).cnt=1:=by rw [Tr.cnt,Tr.cntO_getD,hk];rfl
  rw [ec]
  refine ⟨by omega,fun q=>?_⟩
  have:=q rfl
  omega
 | @inner h l hh h2 h4 hl hb hv ih =>
  have ec:(Tr.mk 0 (h+1) .zero [] (some l)).cnt=Tr.cntL l+1:=by rw [Tr.cnt,Tr.cntO];simp;omega
  have eb:(Tr.mk 0 (h+1) .zero [] (some l)).bytes=Tr.bytesL l:=by rw [Tr.bytes,Tr.bytesO];simp [Mea.zero]
  have:=ZgI l fun u hu=>(ih u hu ((hv u hu).size hN) (hv u hu).pos.2).2 (fun q=>hb u hu (by rw [<- hl u hu];exact q))
  rw [ec,eb]
  exact ⟨by omega,fun _=>by omega⟩
theorem ZqG {N:ZP} (hN:GoodN N) {t:Tr} (hv:VE N t):(nw t:Int)<=t.bytes:=by
 rcases hv with he|hv
 ·unfold nw;rw [if_pos ⟨he.old,he.h,he.text⟩,he.bytes];decide
 ·rw [ZF6 hv];exact (Zl5 hN hv).1
theorem Zhw {A:List (Bool × List Blk)} {L:List Blk} {la b:Nat} {r:AR} (hA:HasR ⟨A,false,L⟩ la b r) (hN:r.n<=r.blk.length) (h16:r.states.length<=16384) (h6:r.n<65536) {t:Tr} (hg:GoodN r.nodes) (hv:VE r.nodes t) (hb:t.bytes<=65536) (hn:r.n<nw t) :
 S Tb XJ [.ptr la (b+5) 0 0 0,t.av] ⟨A,false,L⟩=some (.tup [.nilptr,.int .i64 6],⟨A,false,L++[.arr 7 0 [t.av]]⟩):=by
 have hv:Val r.nodes t:=by
  rcases hv with he|hv
  ·unfold nw at hn;rw [if_pos ⟨he.old,he.h,he.text⟩] at hn;omega
  ·exact hv
 rw [ZF6 hv] at hn;have hcb:=(Zl5 hg hv).1
 have hCk:=fun T=>ZQf (hA.app T).rd hv hb
 have hNw:=fun st=>Zo2 hv (by omega) st
 have hSt:=fun T=>ZeB (hA.app T) hN h16 h6
 unfold AR.statsAV at hSt;refine ZAg rfl ?_
 have e0:(⟨A,false,L⟩:St)=⟨A,false,L++[]⟩:=by rw [lN]
 rw [e0]
 repeat' (first|refine Yv rfl (Z2 _) (QB _) rfl rfl ?_|refine ZAR rfl rfl rfl (Zk _) ?_|refine ZE ?_|refine ZD ?_|refine ZF rfl ?_|refine ZB rfl ?_|refine ZC ?_|refine ZVH (agg:=false) rfl rfl ?_|(refine Qe rfl rfl (fun _=>?_) (fun _=>?_)<;>try (exfalso;omega))|(refine Zl rfl rfl (fun _=>?_) (fun _=>?_)<;>try (exfalso;omega))|refine ZV rfl ?_|refine ZG rfl ?_|refine ZA rfl rfl (by first|rfl|(simp only [lE,lN,lC,ZZ,ZW,ZX];first|done|rfl)) (hCk _) ?_|refine ZA rfl rfl (by first|rfl|(simp only [lE,lN,lC,ZZ,ZW,ZX];first|done|rfl)) (hNw _) ?_|refine ZA rfl rfl (by first|rfl|(simp only [lE,lN,lC,ZZ,ZW,ZX];first|done|rfl)) (hSt _) ?_|refine ZI ?_|refine ZQ ?_|refine ZL ?_|refine Za ?_)
 all_goals try (exfalso;omega)
 refine (Yj (.inr rfl) rfl rfl rfl rfl).trans ?_;rfl
theorem ZYV {st:St} {la b:Nat} {r:AR} (hA:Has st la b r) (ho:AROk r) (hg:GoodN r.nodes) {t:Tr} (hv:VE r.nodes t) (hb:t.bytes<=65536) (hn:r.n<nw t) :
 S Tb XI [.ptr la (b+5) 0 0 0,t.av] st=some (.tup [Ro.zero.av,.lit [],.int .i64 6],st):=by
 refine ZBD rfl (fun A hA'=>?_)
 have hS:=fun L=>Zhw (L:=L) (hA.push hA').r ho.nb ho.n16 (by have:=ho.nn;have:=ho.n16;omega) hg hv hb hn
 repeat' (first|refine ZE ?_|refine ZD ?_|refine ZF rfl ?_|refine Zq rfl rfl ?_|refine ZB rfl ?_|refine ZC ?_|(refine Zl rfl rfl (fun _=>?_) (fun _=>?_)<;>try (exfalso;omega))|refine ZV rfl ?_|refine Zt rfl rfl rfl ?_|refine Ze rfl rfl rfl ?_|refine Zr rfl rfl rfl rfl rfl rfl ?_|refine YF rfl ?_|refine ZO rfl rfl rfl (Zk _) ?_|refine Z1 rfl (Z2 _) (QB _) ?_|refine ZA rfl rfl (by first|rfl|(simp only [lE,lN,lC,ZZ,ZW,ZX];first|done|rfl)) (hS _) ?_|refine ZQ ?_|refine ZL ?_|refine Za ?_)
 all_goals try contradiction
 all_goals try (exfalso;omega)
 exact Zlv (ro:=.zero) (l:=[]) hA' (.inr rfl) rfl rfl rfl rfl rfl rfl
theorem ZIw {x:List UInt8} {l:List (List UInt8)} {i:Nat} (h:l[i]?=some x):(l.take (i+1)).flatten=(l.take i).flatten++x:=by
 rw [List.take_add_one,h];simp
theorem ZJK (l:List (List UInt8)) (i:Nat):(l.take i).flatten.length<=l.flatten.length:=by
 have:=congrArg List.length (congrArg List.flatten (List.take_append_drop i l))
 rw [List.flatten_append,lL] at this;omega
theorem Zl6 {st:St} {la b:Nat} {N:ZP} (hN:GoodN N) (hR:Rd st la (b+5) N) {r:Ro} (hr:RtOk N r) (hlim:(QO N (Z5 N r)).flatten.length<=65536):S T3 ZA6 [.ptr la (b+5) 0 0 0,r.av] st=some (.tup [.str (QO N (Z5 N r)).flatten,.int .i64 0],st):=by
 refine QJ (le3 ZA6 (.pf ZIU) rfl) (fun A hA=>?_)
 have hL:=fun L=>Zl3 hN (hR.push hA (ro:=false) (L:=L)) hr
 have hll:(QO N (Z5 N r)).length<4000000000:=by have:=ZN3 N (Z5 N r);have:=Xw hN hr;omega
 unfold Ro.av at *
 generalize QO N (Z5 N r)=l at *
 repeat' (first|refine ZE ?_|refine ZD ?_|refine ZF rfl ?_|refine ZO rfl rfl rfl rfl ?_|refine Zq rfl rfl ?_|refine ZB rfl ?_|refine ZC ?_|refine QG rfl ?_|(refine Zl rfl rfl (fun _=>?_) (fun _=>?_)<;>try (exfalso;omega))|refine ZG rfl ?_|refine Ze rfl rfl rfl ?_|refine YF rfl ?_|refine ZA rfl rfl rfl (hL _) ?_|refine ZI ?_|refine ZJ ?_)
 all_goals try contradiction
 all_goals try (exfalso;omega)
 refine Zx (α:=Nat) (fun i=>[(8,.ref A.length 1 i 0 (l.take i).flatten.length),(20,.lit (l.map .str)),(21,.int .i64 l.length),(22,.int .i64 i)])
  (fun i=>⟨A,false,[.arr 5 0 [r.av],.arr 1 i (QM (l.take i).flatten)]⟩) (fun i=>i<=l.length) (fun i=>l.length-i) 0 rfl rfl (by simp) ?_
 rintro i hi
 have hfl:=ZJK l i
 repeat' (first|refine ZE ?_|refine ZD ?_|refine ZF rfl ?_|refine ZB rfl ?_|refine ZC ?_|refine QI rfl rfl ?_|refine J2 rfl rfl (by omega) (fun _=>rfl) (fun _ _=>?_)|(refine Zh rfl rfl (fun _=>?_) (fun _=>?_)<;>try (exfalso;omega))|refine ZV rfl ?_|refine ZG rfl ?_|refine ZI ?_|refine Zs ?_|refine ZJ ?_|refine Zd ?_|refine Zc rfl ?_|refine Zo ?_)
 ·rename_i x hx
  have hx2:l[i]?=some x:=hx;have hf2:=ZJK l (i+1);rw [ZIw hx2] at hf2;rw [lL] at hf2
  refine ZUP (ix:=1) (ver:=i) (n:=(l.take i).flatten.length) (es:=QM (l.take i).flatten) (vx:=.str x) (ys:=QM x) rfl rfl rfl ?_ (YQ _).symm ?_ (by decide) (ZYK _) (ZYL _ _ _) rfl ?_
  ·rfl
  ·rw [YQ,YQ];omega
  repeat' (first|refine ZD ?_|refine ZF rfl ?_|refine ZB rfl ?_|refine ZC ?_|refine Zj rfl rfl (by omega) ?_|refine Zy ?_|refine Z8 ?_)
  refine ⟨i+1,⟨?_,?_⟩,by omega,by omega⟩
  ·simp only [ZIw hx2,lL,YQ];rfl
  ·simp only [ZIw hx2,ZIq]
 ·have hi':i=l.length:=by omega
  subst hi';rw [List.take_length]
  skip
  refine ZlK rfl (v:=.str l.flatten) ?_ ?_
  ·have hl:=YQ l.flatten
   show (ZBG l.length 0 l.flatten.length (St.get _ A.length 1)).bind _=_
   rw [St.get_cur]
   show (ZBG l.length 0 l.flatten.length (some (Blk.arr 1 l.length (QM l.flatten)))).bind _=_
   simp only [ZBG,true_and,hl,Nat.zero_add,Nat.le_refl,if_true,List.drop_zero,oS]
   rw [List.take_of_length_le (by omega),ZIt];rfl
  repeat' (first|refine ZF rfl ?_|refine ZB rfl ?_|refine ZC ?_|refine ZQ ?_|refine ZL ?_)
  refine Zg hA (by first|exact .inl rfl|exact .inr rfl) rfl rfl rfl rfl ?_
  rfl
theorem PI.ok {r:AR} (ho:AROk r) (hg:GoodN r.nodes) {t:Tr} (hv:VE r.nodes t) (hb:t.bytes<=65536) (hn:nw t<=r.n) {its:List It} {rx:Nat} {ρ:Nat->Ro} (h:PI t its rx ρ) :
 WrB r (nw t) (wrV t r).1 (wrV t r).2.2/\(IsEmpty t/\(wrV t r).2.1=.zero\/Val r.nodes t/\WrOk r.nodes t (wrV t r).1 (wrV t r).2.1):=by
 rcases h with ⟨h1,_,h2⟩|⟨⟨M,hM⟩,R,h1,h2,h3⟩
 ·have e:nw t=0:=by unfold nw;rw [if_pos ⟨h1.old,h1.h,h1.text⟩]
  rw [ZQn h1,e];exact ⟨.refl ho hg,.inl ⟨h1,rfl⟩⟩
 ·rcases hv with hv|hv
  ·exact absurd hv hM.not_empty
  ·rw [ZUT hv,ZF6 hv]
   rw [ZF6 hv] at hn;obtain ⟨ρ',a1,a2,a3,a4,a5⟩:=exec_ok hg hv hb r ho hg (.refl _) hn rx its R ρ h1 h2 h3;exact ⟨a4,.inr ⟨hv,a5⟩⟩
theorem Zl7 {st:St} {la b:Nat} {r:AR} (hA:Has st la b r) (ho:AROk r) (hg:GoodN r.nodes) {t:Tr} (hv:VE r.nodes t) (hb:t.bytes<=65536) (hn:nw t<=r.n) :
 WrB r (nw t) (wrV t r).1 (wrV t r).2.2/\(IsEmpty t/\(wrV t r).2.1=.zero\/Val r.nodes t/\WrOk r.nodes t (wrV t r).1 (wrV t r).2.1):=by
 obtain ⟨L2,tx,ver,cs,its,F,keys,rx,ρ,hS,hB⟩:=Ziq (L:=[]) (hA.push rfl).r ho.nb ho.n16 (by have:=ho.nn;have:=ho.n16;omega) hv hb hn
 exact hB.pi.ok ho hg hv hb hn
def Zby (N:ZP) (r:Ro):List UInt8:=if r.at_=0 then [] else Je N r.h r.at_
structure Rt (N:ZP) (r:Ro) (s:List UInt8):Prop where
 rt:RtOk N r
 tx:Zby N r=s
theorem RtOk.ext {N M:ZP} (hE:Ext N M) {r:Ro} (h:RtOk N r):RtOk M r:=h.imp id fun ⟨h0,x,h1,h2⟩=>⟨h0,x,hE _ _ h1,h2⟩
theorem Rt.ext {N M:ZP} (hN:GoodN N) (hE:Ext N M) {r:Ro} {s:List UInt8} (h:Rt N r s):Rt M r s:=by
 refine ⟨h.rt.ext hE,?_⟩;rw [<- h.tx];unfold Zby
 split
 ·rfl
 ·rename_i q
  rcases h.rt with e|⟨_,x,h1,_,h2,_⟩
  ·rw [e] at q;exact absurd rfl q
  ·exact ZJH hN hE _ _ x h1 h2
theorem Rt.zero (N:ZP):Rt N .zero []:=⟨.inl rfl,rfl⟩
theorem Rt.m {N:ZP} (hN:GoodN N) {r:Ro} {s:List UInt8} (h:Rt N r s):r.m=XM s:=by
 obtain ⟨h,rfl⟩:=h;unfold Zby
 rcases h with rfl|⟨h0,x,h1,h2,h3,h4⟩
 ·rfl
 ·rw [if_neg h0,ZJD hN _ _ x h1 h3,h4]
theorem Rt.wr {r:AR} (ho:AROk r) {N:ZP} {t:Tr} {ro:Ro} (h:WrOk N t r ro):Rt r.nodes ro (t.txt N):=by
 obtain ⟨y,h1,h2,h3,h4⟩:=h.live;have h0:=(ho.hnd h1).2
 refine ⟨.inr ⟨h0,y,h1,h2,by rw [h3,h.rh],by rw [h4,h.rm]⟩,?_⟩
 unfold Zby;rw [if_neg h0,h.rh,h.txt]
theorem Rt.keep {N:ZP} {r:Ro} {s:List UInt8} (h:Rt N r s):VE N (Jm r)/\(Jm r).txt N=s:=by
 obtain ⟨h,rfl⟩:=h;unfold Zby Jm
 rcases h with rfl|⟨h0,x,h1,h2,h3,h4⟩
 ·rw [if_pos (by rfl),if_pos (by rfl)];exact ⟨.inl zero_empty,rfl⟩
 ·rw [if_neg h0,if_neg h0]
  exact ⟨.inr (.kept h0 h1 h2 h3 h4 rfl),by rw [Tr.keep,Tr.txt,if_neg h0];simp [Tr.txtO]⟩
theorem Rt.b {N:ZP} (hN:GoodN N) {r:Ro} {s:List UInt8} (h:Rt N r s):(Jm r).bytes=s.length/\r.m.b=s.length:=by
 have h1:=h.keep;have h2:=h1.1.len hN;rw [h1.2] at h2
 exact ⟨h2.symm,by rw [h.m hN];rfl⟩
theorem ZRJ {st:St} {la b:Nat} {r:AR} (hA:Has st la b r) (ho:AROk r) (hg:GoodN r.nodes) {t:Tr} (hv:VE r.nodes t) (hb:t.bytes<=65536) (hn:nw t<=r.n) :
 WrB r (nw t) (wrV t r).1 (wrV t r).2.2/\Rt (wrV t r).1.nodes (wrV t r).2.1 (t.txt r.nodes):=by
 obtain ⟨h1,h2⟩:=Zl7 hA ho hg hv hb hn;refine ⟨h1,?_⟩
 rcases h2 with ⟨he,h2⟩|⟨hv,h2⟩
 ·rw [h2,he.txt];exact .zero _
 ·exact .wr h1.ok h2
theorem ZGO (N:ZP) (v w:List Nat):QO N (v++w)=QO N v++QO N w:=by unfold QO;rw [List.filterMap_append]
theorem ZgJ {N:ZP} (hN:GoodN N):∀ n o x,lk N o=some x->x.h=n->(QO N (Qn N n o)).flatten=Je N n o:=by
 intro n
 induction n with
 | zero =>
  intro o x hx hh;rw [Qn,Je,hx]
  simp [QO,JD hx,hh]
 | succ n ih =>
  intro o x hx hh;rw [Qn,Je,hx,JD hx]
  have h0:QO N [o]=[]:=by simp [QO,JD hx];omega
  have e:=ZGO N [o] (x.ks.flatMap fun k=>Qn N n k.at_)
  rw [h0] at e;simp only [Option.map_some,Option.getD_some]
  rw [show (o::x.ks.flatMap fun k=>Qn N n k.at_)=[o]++x.ks.flatMap fun k=>Qn N n k.at_ from rfl,e,lE]
  have hk:=(hN o x hx).2
  have key:∀ l:List Kid,(∀ k∈l,k∈x.ks)->(QO N (l.flatMap fun k=>Qn N n k.at_)).flatten=l.flatMap fun k=>Je N n k.at_:=by
   intro l
   induction l with
   | nil=>intro _;rfl
   | cons k l ih2 =>
    intro h
    obtain ⟨_,y,y1,y2,_⟩:=hk k (h k (by simp))
    rw [List.flatMap_cons,List.flatMap_cons,ZGO,List.flatten_append,ih k.at_ y y1 (by omega),ih2 (fun q hq=>h q (by simp [hq]))]
  exact key _ fun _ h=>h
theorem Rt.leaves {N:ZP} (hN:GoodN N) {r:Ro} {s:List UInt8} (h:Rt N r s):(QO N (Z5 N r)).flatten=s:=by
 obtain ⟨h,rfl⟩:=h;unfold Zby Z5
 split
 ·rfl
 ·rename_i q
  rcases h with rfl|⟨_,x,h1,_,h2,_⟩
  ·exact absurd rfl q
  ·exact ZgJ hN _ _ x h1 h2
theorem Yy (A:List (Bool × List Blk)) (L0 T:List Blk) (r:AR):Has ⟨A,false,L0++(arB A.length L0.length r++T)⟩ A.length L0.length r:=by
 have h:∀ i b,(arB A.length L0.length r++T)[i]?=some b->vis (some b)=some b->St.get ⟨A,false,L0++(arB A.length L0.length r++T)⟩ A.length (L0.length+i)=some b:=by
  intro i b hb hv;rw [St.get_cur,Qx,hb,hv]
 exact ⟨by simp [St.wr],h 0 _ rfl rfl,h 1 _ rfl rfl,h 2 _ rfl rfl,h 3 _ rfl rfl,h 4 _ rfl rfl,h 5 _ rfl rfl⟩
theorem ZN4 (A:List (Bool × List Blk)) (L0 T:List Blk) (r r':AR):Qb ⟨A,false,L0++(arB A.length L0.length r++T)⟩ A.length L0.length r'=⟨A,false,L0++(arB A.length L0.length r'++T)⟩:=by
 have h:∀ (X:List Blk) (i:Nat) (b:Blk),St.upd ⟨A,false,L0++X⟩ A.length (L0.length+i) b=⟨A,false,L0++X.set i b⟩:=fun X i b=>by
  unfold St.upd;simp only [if_true,ZNr]
 have h0:∀ (X:List Blk) (b:Blk),St.upd ⟨A,false,L0++X⟩ A.length L0.length b=⟨A,false,L0++X.set 0 b⟩:=fun X b=>h X 0 b
 simp only [Qb,arK,arB,Jl,h,h0];rfl
theorem Zpi {e:Env} {A:List (Bool × List Blk)} {st:St} {L:List Blk} {x:Ex} {c4 c5 j4 w4 v4:Nat} {ro:Ro} {z:Int} (hA:A=st.A++[(st.ro,st.L)]) (hx:x=.norm\/x=.ret) (h4:J0 e c4=some (.ptr A.length j4 v4 0 0)) (hg4:L[j4]?=some (.arr w4 v4 [ro.av]))
 (h6:J0 e c5=some (.int .i64 z)):Jh false [.c c4 true 5,.s c5] (x,e,⟨A,false,L⟩)=some (.tup [ro.av,.int .i64 z],st):=by
 refine ZDR (v:=.tup [ro.av,.int .i64 z]) hA hx ?_ (L':=L) rfl rfl
 have h1:ZBJ ⟨A,false,L⟩ e (.c c4 true 5)=some ro.av:=by
  simp only [ZBJ,QN h4,loadP,St.get_cur,hg4,vis,ZF8,if_true,List.getElem?_cons_zero,oS];rfl
 simp only [QV,ZDP,h1,oS];simp only [ZBJ,QN h6,oS,Option.map_some,ZF9]
theorem Ziu {st:St} {la b:Nat} {r:AR} (hA:Has st la b r) (ho:AROk r) (hg:GoodN r.nodes) (s:List UInt8) (hs:s.length<=65536) (hn:nw (Qm s)<=r.n) :
 S Tb ZCB [.ptr la (b+5) 0 0 0,.str s] st=some (.tup [(wrV (Qm s) r).2.1.av,.int .i64 0],Qb st la b (wrV (Qm s) r).1):=by
 obtain ⟨b1,b2,b3⟩:=XO hg hs
 refine ZBD rfl (fun A hA'=>?_)
 have hB:=fun L=>Zd8 hg s hs ⟨A,false,L⟩
 have hle:=hA.le
 have hW:=fun L=>ZeG (st:=⟨A,false,L⟩) (hA.push hA') ho hg b1 (by rw [b3];omega) hn
 simp only [XP hA' hle] at hW
 generalize (wrV (Qm s) r).1=r' at *
 generalize (wrV (Qm s) r).2.1=ro at *
 repeat' (first|refine ZE ?_|refine ZD ?_|refine ZF rfl ?_|refine Zq rfl rfl ?_|refine ZB rfl ?_|refine ZC ?_|(refine Zl rfl rfl (fun _=>?_) (fun _=>?_)<;>try (exfalso;omega))|refine ZG rfl ?_|refine JO rfl rfl rfl rfl ?_|refine Ze rfl rfl rfl ?_|refine ZO rfl rfl rfl (Zk _) ?_|refine Zr rfl rfl rfl (QH _ _ _) (Qc _ _) rfl ?_|refine ZA rfl rfl (by first|rfl|(simp only [lE,lN,lC,ZZ,ZW,ZX];first|done|rfl)) (hB _) ?_|refine ZI ?_)
 all_goals try contradiction
 all_goals try (exfalso;omega)
 obtain ⟨A2,hA2⟩:∃ A2,A2=(Qb st la b r').ps:=⟨_,rfl⟩;simp only [<- hA2] at hW
 have hAl:A.length=A2.length:=by rw [hA',hA2];simp [St.ps,ZDd]
 refine ZA rfl rfl (ZqB rfl _) (hW _) ?_;rw [hAl]
 repeat' (first|refine Q7 rfl rfl rfl rfl rfl rfl ?_|refine ZO rfl rfl rfl rfl ?_|refine ZE ?_|refine ZD ?_|refine ZF rfl ?_|refine Zq rfl rfl ?_|refine ZB rfl ?_|refine ZC ?_|refine Ze rfl rfl rfl ?_|refine ZQ ?_|refine ZL ?_)
 exact Zpi hA2 (.inr rfl) rfl rfl rfl
theorem ZYW (n g:Nat) (hn:n<=16384) (hg:1<=g/\g<=4294967295):AROk (JH n g):=by
 have hb:∀ i,i<n->(JH n g).blk[i]?=some ((n:Int)-1-i):=fun i hi=>by simp [JH,hi]
 refine ⟨by simp [JH],by simp [JH];exact hn,by simp [JH],by simp [JH],fun i hi=>⟨n-1-i,?_,?_,?_⟩,fun i j hi hj q=>?_,fun s hs=>⟨1,?_,by omega,?_⟩,?_,fun h x hx=>?_,?_,?_,?_⟩
 ·have hi':i<n:=hi
  rw [hb i hi'];congr 1
  show (n:Int)-1-i=((n-1-i:Nat):Int)
  omega
 ·have hi':i<n:=hi
  show n-1-i<(List.replicate n (0:Int)).length
  rw [List.length_replicate];omega
 ·have hi':i<n:=hi
  show (List.replicate n (0:Int))[n-1-i]?=some 0
  rw [List.getElem?_replicate,if_pos (by omega)]
 ·have hi':i<n:=hi
  have hj':j<n:=hj;rw [hb i hi',hb j hj'] at q
  have:=Option.some.inj q
  omega
 ·have hs':s<n:=by simpa [JH] using hs
  simp [JH,hs']
 ·show ((1:Nat):Int)<=(g:Int);omega
 ·show (g:Int)<=_;omega
 ·simp [JH,lk] at hx
 ·simp [JH]
 ·simp [JH]
 ·simp [JH];omega
noncomputable def ZgK (p:AR × List Ro) (s:List UInt8):AR × List Ro:=((wrV (Qm s) p.1).1,p.2++[(wrV (Qm s) p.1).2.1])
noncomputable def XS (texts:List (List UInt8)):AR × List Ro:=texts.foldl ZgK (JH 1500 3,[])
theorem ZLT (l:List (List UInt8)) (s:List UInt8):XS (l++[s])=ZgK (XS l) s:=by unfold XS;rw [List.foldl_append];rfl
def Rts (N:ZP) (ros:List Ro) (ss:List (List UInt8)):Prop:=ros.length=ss.length/\∀ (i:Nat) (ro:Ro) (s:List UInt8),ros[i]?=some ro->ss[i]?=some s->Rt N ro s
theorem Rts.ext {N M:ZP} (hN:GoodN N) (hE:Ext N M) {ros:List Ro} {ss:List (List UInt8)} (h:Rts N ros ss):Rts M ros ss:=⟨h.1,fun i ro s h1 h2=>(h.2 i ro s h1 h2).ext hN hE⟩
theorem Rts.snoc {N:ZP} {ros:List Ro} {ss:List (List UInt8)} (h:Rts N ros ss) {ro:Ro} {s:List UInt8} (g:Rt N ro s):Rts N (ros++[ro]) (ss++[s]):=by
 refine ⟨by simp [h.1],fun i r t h1 h2=>?_⟩
 rcases Nat.lt_or_ge i ros.length with q|q
 ·rw [jL q] at h1
  rw [jL (by rw [<- h.1];exact q)] at h2
  exact h.2 i r t h1 h2
 ·rw [List.getElem?_append_right q] at h1
  rw [List.getElem?_append_right (by rw [<- h.1];exact q)] at h2
  rw [<- h.1] at h2
  match hk:i-ros.length with
  | 0=>rw [hk] at h1 h2;obtain rfl:=Option.some.inj h1;obtain rfl:=Option.some.inj h2;exact g
  | n+1=>rw [hk] at h1;simp at h1
structure LaidOk (texts:List (List UInt8)) (p:AR × List Ro):Prop where
 ok:AROk p.1
 good:GoodN p.1.nodes
 rts:Rts p.1.nodes p.2 texts
 room:1500<=p.1.n+texts.flatten.length
theorem ZYX {l:List (List UInt8)} {p:AR × List Ro} {s:List UInt8} (h:LaidOk l p) (hl:(l++[s]).flatten.length<=900):nw (Qm s)<=p.1.n/\LaidOk (l++[s]) (ZgK p s):=by
 have hfl:(l++[s]).flatten.length=l.flatten.length+s.length:=by simp
 have hr:=h.room
 have hs:s.length<=65536:=by omega
 obtain ⟨b1,b2,b3⟩:=XO h.good hs;have hw:=ZqG h.good b1;rw [b3] at hw
 have hn:nw (Qm s)<=p.1.n:=by omega
 obtain ⟨w1,w2⟩:=ZRJ (Yy [] [] [] p.1) h.ok h.good b1 (by rw [b3];omega) hn
 rw [b2] at w2;refine ⟨hn,w1.ok,w1.good,(h.rts.ext h.good w1.ext).snoc w2,?_⟩
 have:=w1.n
 show 1500<=(wrV (Qm s) p.1).1.n+_
 omega
theorem ZYY (texts:List (List UInt8)) (hl:texts.flatten.length<=900):∀ i,i<=texts.length->LaidOk (texts.take i) (XS (texts.take i)):=by
 intro i
 induction i with
 | zero=>intro _;exact ⟨ZYW 1500 3 (by omega) (by omega),ZNt,⟨rfl,fun i ro s h=>by simp [XS] at h⟩,by simp [XS,JH]⟩
 | succ i ih =>
  intro hi
  obtain ⟨s,hs⟩:∃ s,texts[i]?=some s:=⟨texts[i]'(by omega),by simp [show i<texts.length by omega]⟩
  rw [Zb hs,ZLT]
  refine (ZYX (ih (by omega)) ?_).2
  rw [<- Zb hs]
  have:=ZJK texts (i+1)
  omega
def ZDe (l:List Ro):List Blk:=l.map fun r=>Blk.arr 5 0 [r.av]
theorem Zpj (texts:List (List UInt8)) (hl:texts.flatten.length<=900) (h4:texts.length<=4) (A:List (Bool × List Blk)) (L0:List Blk) :
 S Tb Yb [.lit (texts.map .str)] ⟨A,false,L0⟩=some (.tup [.ptr A.length (L0.length+5) 0 0 0,.ref A.length (L0.length+6) texts.length 0 texts.length,.bool true],⟨A,false,L0++(arB A.length L0.length (XS texts).1++(.arr 5 texts.length ((XS texts).2.map Ro.av)::ZDe (XS texts).2))⟩):=by
 refine ZAg rfl ?_
 have hN:=Zik 1500 3 (by omega) (by omega) A L0
 repeat' (first|refine Zf3 ?_|refine ZE ?_|refine ZD ?_|refine ZF rfl ?_|refine QE rfl ?_|refine Zn rfl rfl rfl rfl ?_|refine Zq rfl rfl ?_|refine ZB rfl ?_|refine ZC ?_|(refine Zl rfl rfl (fun _=>?_) (fun _=>?_)<;>try (exfalso;omega))|refine ZG rfl ?_|refine JO rfl rfl rfl rfl ?_|refine ZA rfl rfl rfl (hN) ?_|refine ZI ?_|refine ZJ ?_)
 all_goals try contradiction
 have e7:(L0++[(JH 1500 3).b0,(JH 1500 3).b1,(JH 1500 3).b2,(JH 1500 3).b3 A.length L0.length,(JH 1500 3).b4,(JH 1500 3).b5 A.length L0.length]).length=L0.length+6:=by simp
 rw [e7]
 refine Zx (α:=Nat) (fun i=>[(0,.lit (texts.map .str)),(5,.ptr A.length (L0.length+5) 0 0 0),(7,.ref A.length (L0.length+6) i 0 i),(8,.int .i64 i)])
  (fun i=>⟨A,false,L0++(arB A.length L0.length (XS (texts.take i)).1++(.arr 5 i ((XS (texts.take i)).2.map Ro.av)::ZDe (XS (texts.take i)).2))⟩) (fun i=>i<=texts.length) (fun i=>texts.length-i) 0 rfl ?_ (by simp) ?_
 ·rw [List.append_assoc];rfl
 rintro i hi
 have hok:=ZYY texts hl i hi
 rcases Nat.lt_or_ge i texts.length with hlt|hge
 ·obtain ⟨s,hs⟩:∃ s,texts[i]?=some s:=⟨texts[i]'(by omega),by simp [show i<texts.length by omega]⟩
  have hfl:=ZJK texts (i+1)
  have htk:(texts.take i++[s]).flatten.length<=900:=by rw [<- Zb hs];omega
  obtain ⟨hn,hok2⟩:=ZYX hok htk
  have h1:=Ziu (Yy A L0 (.arr 5 i ((XS (texts.take i)).2.map Ro.av)::ZDe (XS (texts.take i)).2) (XS (texts.take i)).1) hok.ok hok.good s (by simp at htk;omega) hn
  rw [ZN4] at h1
  have hV:XS (texts.take (i+1))=ZgK (XS (texts.take i)) s:=by rw [Zb hs,ZLT]
  unfold ZgK at hV;have hri:=hok.rts.1;rw [List.length_take,Nat.min_eq_left hi] at hri
  generalize XS (texts.take i)=V at *
  generalize wrV (Qm s) V.1=W at *
  have hx:0<=((i:Nat):Int)/\texts[((i:Nat):Int).toNat]?=some s:=⟨by omega,by rw [show ((i:Nat):Int).toNat=i by omega];exact hs⟩
  obtain ⟨L1,hL1⟩:∃ L1,L1=L0++(arB A.length L0.length W.1++Blk.arr 5 i (List.map Ro.av V.2)::ZDe V.2):=⟨_,rfl⟩;rw [<- hL1] at h1
  have g6:L1[L0.length+6]?=some (.arr 5 i (V.2.map Ro.av)):=by rw [hL1,Qx];rfl
  repeat' (first|refine JC rfl rfl hx (fun _=>rfl) ?_|refine ZE ?_|refine ZD ?_|refine ZF rfl ?_|refine Zq rfl rfl ?_|refine ZB rfl ?_|refine ZC ?_|refine QG rfl ?_|refine Q1 rfl rfl rfl ?_|refine QI rfl rfl ?_|(refine Zh rfl rfl (fun _=>?_) (fun _=>?_)<;>try (exfalso;omega))|(refine Zl rfl rfl (fun _=>?_) (fun _=>?_)<;>try (exfalso;omega))|refine ZV rfl ?_|refine ZG rfl ?_|refine Z1 rfl rfl rfl ?_|refine Yr rfl rfl rfl rfl rfl rfl ?_|refine QK rfl rfl rfl rfl ?_|refine ZA rfl rfl rfl (h1) ?_|refine ZI ?_|refine ZJ ?_)
  all_goals try contradiction
  all_goals try (exfalso;omega)
  have h6l:L0.length+6<L1.length:=(List.getElem?_eq_some_iff.1 g6).1
  refine Yw (es:=V.2.map Ro.av) (ys:=[W.2.1.av]) rfl rfl (QQ g6) (by rw [List.length_map];omega) rfl rfl (by rw [List.length_map,List.length_singleton];omega) (by decide) ?_
  repeat' (first|refine ZD ?_|refine ZF rfl ?_|refine ZB rfl ?_|refine ZC ?_|refine Zj rfl rfl (by omega) ?_|refine Zy ?_|refine Z8 ?_)
  refine ⟨i+1,⟨rfl,?_⟩,by omega,by omega⟩
  simp only [hV];rw [hL1,List.append_assoc,ZNr]
  have e8:((V.2++[W.2.1]).map Ro.av)=V.2.map Ro.av++[W.2.1.av]:=by rw [List.map_append];rfl
  have e9:ZDe (V.2++[W.2.1])=ZDe V.2++[.arr 5 0 [W.2.1.av]]:=by unfold ZDe;rw [List.map_append];rfl
  rw [e8,e9];rfl
 ·obtain rfl:i=texts.length:=by omega
  rw [List.take_length]
  repeat' (first|refine ZE ?_|refine ZD ?_|refine ZF rfl ?_|refine ZB rfl ?_|refine ZC ?_|refine QG rfl ?_|(refine Zh rfl rfl (fun _=>?_) (fun _=>?_)<;>try (exfalso;omega))|refine ZG rfl ?_|refine ZQ ?_|refine Zs ?_|refine ZL ?_|refine Zd ?_|refine Zc rfl ?_|refine Zo ?_)
  refine (Yj (.inr rfl) rfl rfl rfl rfl).trans ?_;rfl
def JI (x n:Int):Int:=(x % 18446744073709551616) % (n+1)
theorem Qi {x n:Int} (h:0<=n):0<=JI x n/\JI x n<=n:=by
 unfold JI
 have:=Int.emod_nonneg (x % 18446744073709551616) (show n+1≠0 by omega)
 have:=Int.emod_lt_of_pos (x % 18446744073709551616) (show 0<n+1 by omega)
 omega
theorem Zo4 (x:Int):IntKind.u64.wrap x=x % 18446744073709551616:=by
 have e1:IntKind.u64.signed=false:=rfl;have e2:IntKind.u64.bits=64:=rfl;simp only [IntKind.wrap,e1,e2,Bool.false_and,if_false,jB];rfl
theorem ZB0 (k:Option (List Tr)):(Tr.ownO k).getD []=(k.getD []).map Tr.own:=by
 cases k with
 | none=>rfl
 | some l=>simp [Tr.ownO,Tr.ownL_map]
theorem ZqH (t:Tr):t.own.h=t.h:=by cases t;rfl
theorem ZEj (t:Tr):t.own.bytes=t.bytes:=by
 induction t using Tr.ind with
 | step o h m s k ih =>
  rw [Tr.own,Tr.bytes,Tr.bytes,Tr.bytesO_getD,Tr.bytesO_getD,ZB0];generalize k.getD []=l at ih
  congr 1
  induction l with
  | nil=>rfl
  | cons a l ih2=>rw [jC,Tr.bytesL,Tr.bytesL,ih a (by simp),ih2 (fun t ht=>ih t (by simp [ht]))]
theorem Ziv (N:ZP) (t:Tr):t.own.txt N=t.txt N:=by
 induction t using Tr.ind with
 | step o h m s k ih =>
  rw [Tr.own,Tr.txt,Tr.txt,Tr.txtO_getD,Tr.txtO_getD,ZB0];generalize k.getD []=l at ih
  congr 1
  induction l with
  | nil=>rfl
  | cons a l ih2=>rw [jC,Tr.txtL,Tr.txtL,ih a (by simp),ih2 (fun t ht=>ih t (by simp [ht]))]
theorem ZoZ {N:ZP} {t:Tr} (hv:Val N t):Val N t.own:=by
 induction hv with
 | kept h0 hx hok hh hm hk =>
  rw [Tr.own]
  exact .kept h0 hx hok hh hm (by rw [ZB0,hk];rfl)
 | leaf h1 h2 hk =>
  rw [Tr.own]
  exact .leaf h1 h2 (by rw [ZB0,hk];rfl)
 | inner hh h2 h4 hl hb hv ih =>
  rename_i h l
  rw [Tr.own,Tr.ownO,Tr.ownL_map]
  refine .inner hh (by rw [List.length_map];exact h2) (by rw [List.length_map];exact h4) ?_ ?_ ?_
  ·intro t ht
   obtain ⟨u,hu,rfl⟩:=List.mem_map.1 ht;rw [ZqH];exact hl u hu
  ·intro t ht q
   obtain ⟨u,hu,rfl⟩:=List.mem_map.1 ht;rw [ZEj];exact hb u hu q
  ·intro t ht
   obtain ⟨u,hu,rfl⟩:=List.mem_map.1 ht;exact ih u hu
theorem Zhx {N:ZP} {t:Tr} (h:VE N t):VE N t.own:=by
 rcases h with h|h
 ·obtain ⟨o,h',m,s,k⟩:=t
  obtain ⟨h1,h2,h3,h4,h5⟩:=h
  exact .inl ⟨h1,h2,h3,h4,by show (Tr.ownO k).getD []=[];rw [ZB0];simp only [Tr.ks] at h5;rw [h5];rfl⟩
 ·exact .inr (ZoZ h)
theorem ZeK (x n:Int) (h0:0<=n) (h1:n<4611686018427387904) (st:St):S Tb JR [.int .i64 x,.int .i64 n] st=some (.int .i64 (JI x n),st):=by
 have hp:=Qi (x:=x) h0
 have hw:IntKind.u64.wrap (n+1)=n+1:=by rw [Zo4];omega
 have hx:=Int.emod_nonneg x (show (18446744073709551616:Int)≠0 by decide)
 have hrem:ZEp .rem (.int .u64 (IntKind.u64.wrap x)) (.int .u64 (n+1))=some (.int .u64 (JI x n)):=by
  rw [Zo4]
  show (if n+1=0 then none else some (AV.int .u64 ((x % 18446744073709551616).tmod (n+1))))=_
  rw [if_neg (by omega),Int.tmod_eq_emod_of_nonneg hx];rfl
 refine QJ rfl (fun A hA=>?_)
 repeat' (first|refine ZE ?_|refine ZD ?_|refine ZF rfl ?_|refine ZB rfl ?_|refine ZC ?_)
 refine Znt rfl ?_
 repeat' (first|refine ZF rfl ?_|refine Zj rfl rfl (by omega) ?_)
 refine ZLu rfl hw ?_;refine ZVG rfl rfl hrem ?_
 refine ZLu rfl (ZOV (by omega) (by omega)) ?_
 repeat' (first|refine ZF rfl ?_|refine ZB rfl ?_|refine ZC ?_|refine ZQ ?_|refine ZL ?_)
 refine Zg hA (by first|exact .inl rfl|exact .inr rfl) rfl rfl rfl rfl ?_
 rfl
structure Ed where
 what:Nat
 n:Int
 at_:Int
 len:Int
 text:List UInt8
def Ed.av (y:Ed):AV:=.agg [.int .u8 y.what,.int .i64 y.n,.int .i64 y.at_,.int .i64 y.len,.str y.text]
def Zbz (ros:List Ro) (x:Int):Option Ro:=ros[(JI x ((ros.length:Int)-1)).toNat]?
noncomputable def ZCo (N:ZP) (ros:List Ro) (y:Ed):Tr :=
 match Zbz ros y.n with
 | none=>Qm y.text
 | some r=>(ZCl N (Jm r) (JI y.at_ r.m.b) (JI y.len (r.m.b-JI y.at_ r.m.b)) y.text).own
theorem Zl8 {ros:List Ro} {x:Int} (h:ros≠[]):∃ r,Zbz ros x=some r/\r∈ros/\(JI x ((ros.length:Int)-1)).toNat<ros.length:=by
 have hl:0<ros.length:=List.length_pos_iff.2 h
 have:=Qi (x:=x) (n:=(ros.length:Int)-1) (by omega)
 have hlt:(JI x ((ros.length:Int)-1)).toNat<ros.length:=by omega
 exact ⟨ros[(JI x ((ros.length:Int)-1)).toNat]'hlt,by unfold Zbz;rw [jE hlt],List.getElem_mem _,hlt⟩
theorem XQ (r:Ro):Qj r.av true 0 5=some r.av:=by cases r;rfl
theorem YS {O:Orc} {k:List Fr} {Q:YO} {e:Env} {st:St} {keep:List Nat} {is:List QAbs.PI} {d:Nat} {α:Type} {f:α->AV} {x:Opd} {l:List α} (hx:Zf e x=some (.lit (l.map f))) (h:Is O is keep k Q ((d,.int .i64 l.length)::e) st):Is O (⟨some d,none,false,.len 1 x⟩::is) keep k Q e st:=by
 refine Zca hx ?_;rw [List.length_map];exact h
theorem Ziw {lv ix:Nat} {t:Tr} {n m:Int} {s:List UInt8}:ZX (ZZ ([]++[.ptr lv ix 0 0 0,t.av,.int .i64 n,.int .i64 m,.str s]++[]))=some [.ptr lv ix 0 0 0,t.av,.int .i64 n,.int .i64 m,.str s]:=by
 simp only [lE,lN,lC,ZZ,ZW,ZX];rfl
structure PlanOk (N:ZP) (ros:List Ro):Prop where
 rt:∀ r∈ros,RtOk N r/\(Jm r).bytes=r.m.b/\0<=r.m.b/\r.m.b<=60000
 len:ros.length<65536
theorem Rts.plan {N:ZP} (hN:GoodN N) {ros:List Ro} {ss:List (List UInt8)} (h:Rts N ros ss) (hl:ros.length<65536) (hs:∀ s∈ss,s.length<=60000):PlanOk N ros:=by
 refine ⟨fun r hr=>?_,hl⟩
 obtain ⟨i,hi,rfl⟩:=List.getElem_of_mem hr
 have hi2:i<ss.length:=by rw [<- h.1];exact hi
 have g:=h.2 i _ _ (jE hi) (jE hi2);obtain ⟨b1,b2⟩:=g.b hN
 have:=hs _ (List.getElem_mem hi2)
 exact ⟨g.rt,by rw [b1,b2],by omega,by omega⟩
theorem RtOk.keep {N:ZP} {r:Ro} (h:RtOk N r):VE N (Jm r):=(Rt.keep ⟨h,rfl⟩).1
theorem Zl9 {N:ZP} (hN:GoodN N) {ros:List Ro} (h:PlanOk N ros) {y:Ed} (hy:y.text.length<=200):VE N (ZCo N ros y)/\(ZCo N ros y).bytes<=60200:=by
 unfold ZCo
 match hq:Zbz ros y.n with
 | none =>
  obtain ⟨b1,b2,b3⟩:=XO hN (s:=y.text) (by omega)
  exact ⟨b1,by show (Qm y.text).bytes<=_;omega⟩
 | some r =>
  obtain ⟨h1,h2,h3,h4⟩:=h.rt r (jM (show ros[_]?=some r from hq))
  have p1:=Qi (x:=y.at_) h3
  have p2:=Qi (x:=y.len) (n:=r.m.b-JI y.at_ r.m.b) (by omega)
  have:=ZNs hN (s:=y.text) h1.keep (a:=JI y.at_ r.m.b) (n:=JI y.len (r.m.b-JI y.at_ r.m.b)) p1.1 p2.1 (by omega) (by omega) (by omega)
  refine ⟨Zhx this.ve,?_⟩
  show (Tr.own _).bytes<=_
  rw [ZEj,this.bytes];omega
theorem Zoa {st:St} {la b:Nat} {N:ZP} (hN:GoodN N) (hR:Rd st la (b+5) N) {kx lv ver:Nat} {ros:List Ro} (hg:st.get lv kx=some (.arr 5 ver (ros.map Ro.av))) (hP:PlanOk N ros) {ys:List Ed} (hyl:ys.length<65536) (hy:∀ y∈ys,y.text.length<=200) :
 S Tb XU [.ptr la (b+5) 0 0 0,.ref lv kx ver 0 ros.length,.lit (ys.map Ed.av)] st=some (.tup [.lit ((ys.map (ZCo N ros)).map Tr.av),.bool true],st):=by
 refine QJ rfl (fun A hA=>?_)
 have hr:=fun L=>hR.push hA (ro:=false) (L:=L)
 have gr:=fun L=>ZS hA (ro:=false) (L:=L) hg
 have hwi:∀ L,wIs 5 ver (St.get ⟨A,false,L⟩ lv kx)=true:=fun L=>by rw [gr];simp [wIs]
 have hpl:=hP.len
 repeat' (first|refine ZE ?_|refine ZD ?_|refine ZF rfl ?_|refine ZB rfl ?_|refine ZC ?_|refine YF rfl ?_|refine ZJ ?_)
 refine Zx (α:=Nat × List Blk) (fun q=>[(0,.ptr la (b+5) 0 0 0),(1,.ref lv kx ver 0 ros.length),(2,.lit (ys.map Ed.av)),(8,.ref A.length 0 q.1 0 q.1),(9,.int .i64 q.1)])
  (fun q=>⟨A,false,.arr 7 q.1 (((ys.take q.1).map (ZCo N ros)).map Tr.av)::q.2⟩) (fun q=>q.1<=ys.length) (fun q=>ys.length-q.1) (0,[]) rfl rfl (Nat.zero_le _) ?_
 rintro ⟨i,G⟩ hi
 simp only at hi ⊢
 rcases Nat.lt_or_ge i ys.length with hlt|hge
 ·obtain ⟨y,hyi⟩:∃ y,ys[i]?=some y:=⟨ys[i]'(by omega),by simp [hlt]⟩
  have hy1:=hy y (jM hyi)
  have hx:0<=((i:Nat):Int)/\ys[((i:Nat):Int).toNat]?=some y:=⟨by omega,by rw [show ((i:Nat):Int).toNat=i by omega];exact hyi⟩
  have hes:(((ys.take i).map (ZCo N ros)).map Tr.av).length=i:=by simp;omega
  have hfin:∀ c,ZCo N ros y=c->((ys.take (i+1)).map (ZCo N ros)).map Tr.av=((ys.take i).map (ZCo N ros)).map Tr.av++[c.av]:=fun c hc=>by
   rw [Zb hyi,List.map_append,List.map_append,<- hc];rfl
  generalize hES:((ys.take i).map (ZCo N ros)).map Tr.av=es at *
  have e0:(⟨A,false,.arr 7 i es::G⟩:St)=⟨A,false,(.arr 7 i es::G)++[]⟩:=by rw [lN]
  rw [e0]
  by_cases hros:ros=[]
  ·have hc:=hfin (Qm y.text) (by unfold ZCo;rw [show Zbz ros y.n=none by subst hros;rfl])
   have h0:(ros.length:Int)=0:=by rw [hros];rfl
   have hBu:=fun st=>Zd8 hN y.text (by omega) st
   generalize Qm y.text=c at *
   repeat' (first|refine YS rfl ?_|refine Qd rfl ?_|refine JC rfl rfl hx (fun _=>rfl) ?_|refine Yv rfl rfl rfl rfl rfl ?_|refine ZAR rfl rfl rfl (Zk _) ?_|refine ZIr rfl rfl rfl rfl (QH _ _ _) (Qc _ _) rfl ?_|refine ZBw rfl ?_|refine ZE ?_|refine ZD ?_|refine ZF rfl ?_|refine ZU rfl rfl ?_|refine Zq rfl rfl ?_|refine ZB rfl ?_|refine ZC ?_|refine QI rfl rfl ?_|(refine Zh rfl rfl (fun _=>?_) (fun _=>?_)<;>try (exfalso;omega))|(refine Zp rfl rfl (fun _=>?_) (fun _=>?_)<;>try (exfalso;omega))|(refine Zl rfl rfl (fun _=>?_) (fun _=>?_)<;>try (exfalso;omega))|refine ZV rfl ?_|refine ZG rfl ?_|refine ZA rfl rfl (by first|rfl|(simp only [lE,lN,lC,ZZ,ZW,ZX];first|done|rfl)) (hBu _) ?_|refine ZI ?_|refine ZJ ?_)
   all_goals try contradiction
   all_goals try (exfalso;omega)
   refine Yw (es:=es) (ys:=[c].map Tr.av) rfl rfl rfl hes.symm (Yl _) (ZIm _ _ _) (by rw [hes,List.length_map,List.length_singleton];omega) (by decide) ?_
   repeat' (first|refine ZD ?_|refine ZF rfl ?_|refine ZB rfl ?_|refine ZC ?_|refine Zj rfl rfl (by omega) ?_|refine Zs ?_|refine Zd ?_|refine Zc rfl ?_|refine Z8 ?_)
   refine ⟨(i+1,G++[.arr 7 0 [c.av]]),⟨rfl,?_⟩,by simp only;omega,by simp only;omega⟩
   simp only [hc];rfl
  ·obtain ⟨r,hr1,hr2,hr3⟩:=Zl8 (x:=y.n) hros
   have hc:=hfin (ZCl N (Jm r) (JI y.at_ r.m.b) (JI y.len (r.m.b-JI y.at_ r.m.b)) y.text).own (by unfold ZCo;rw [hr1])
   obtain ⟨h1,h2,h3,h4⟩:=hP.rt r hr2;have hl0:0<ros.length:=List.length_pos_iff.2 hros
   have pn:=Qi (x:=y.n) (n:=(ros.length:Int)-1) (by omega)
   have p1:=Qi (x:=y.at_) h3
   have p2:=Qi (x:=y.len) (n:=r.m.b-JI y.at_ r.m.b) (by omega)
   have hN1:=fun st=>ZeK y.n ((ros.length:Int)-1) (by omega) (by omega) st
   have hN2:=fun st=>ZeK y.at_ r.m.b (by omega) (by omega) st
   have hN3:=fun st=>ZeK y.len (r.m.b-JI y.at_ r.m.b) (by omega) (by omega) st
   have hK:=fun L=>ZJI (hr L) h1
   have hRe:=fun L=>Zbt hN (hr L) (s:=y.text) h1.keep (a:=JI y.at_ r.m.b) (n:=JI y.len (r.m.b-JI y.at_ r.m.b)) p1.1 p2.1 (by omega) (by omega) (by omega)
   have gr2:(ros.map Ro.av)[0+(JI y.n ((ros.length:Int)-1)).toNat]?=some r.av:=by
    rw [Nat.zero_add,jG,show ros[(JI y.n ((ros.length:Int)-1)).toNat]?=some r from hr1];rfl
   generalize (ZCl N (Jm r) (JI y.at_ r.m.b) (JI y.len (r.m.b-JI y.at_ r.m.b)) y.text).own=c at *
   generalize Jm r=kt at *
   repeat' (first|refine YS rfl ?_|refine Qd rfl ?_|refine JC rfl rfl hx (fun _=>rfl) ?_|refine Y4 rfl rfl (by omega) (hwi _) ?_|refine Z9 rfl (gr _) gr2 (XQ _) ?_|refine Yv rfl rfl rfl rfl rfl ?_|refine ZAR rfl rfl rfl rfl ?_|refine ZAR rfl rfl rfl (Zk _) ?_|refine ZIr rfl rfl rfl rfl (QH _ _ _) (Qc _ _) rfl ?_|refine ZIr rfl rfl rfl rfl rfl rfl rfl ?_|refine ZBw rfl ?_|refine ZE ?_|refine ZD ?_|refine ZF rfl ?_|refine ZU rfl rfl ?_|refine Zq rfl rfl ?_|refine ZB rfl ?_|refine ZC ?_|refine QI rfl rfl ?_|(refine Zh rfl rfl (fun _=>?_) (fun _=>?_)<;>try (exfalso;omega))|(refine Zp rfl rfl (fun _=>?_) (fun _=>?_)<;>try (exfalso;omega))|(refine Zl rfl rfl (fun _=>?_) (fun _=>?_)<;>try (exfalso;omega))|refine ZV rfl ?_|refine ZG rfl ?_|refine YE rfl rfl (by omega) ?_|refine ZA rfl rfl (by first|rfl|(simp only [lE,lN,lC,ZZ,ZW,ZX];first|done|rfl)) (hN1 _) ?_|refine ZA rfl rfl (by first|rfl|(simp only [lE,lN,lC,ZZ,ZW,ZX];first|done|rfl)) (hN2 _) ?_|refine JM rfl rfl rfl (hN3 _) ?_|refine ZA rfl rfl (by first|rfl|(simp only [lE,lN,lC,ZZ,ZW,ZX];first|done|rfl)) (hK _) ?_|refine ZA rfl rfl Ziw (hRe _) ?_|refine ZI ?_|refine ZJ ?_)
   all_goals try contradiction
   all_goals try (exfalso;omega)
   refine Yw (es:=es) (ys:=[c].map Tr.av) rfl rfl rfl hes.symm (Yl _) (ZIm _ _ _) (by rw [hes,List.length_map,List.length_singleton];omega) (by decide) ?_
   repeat' (first|refine ZD ?_|refine ZF rfl ?_|refine ZB rfl ?_|refine ZC ?_|refine Zj rfl rfl (by omega) ?_|refine Zy ?_|refine Z8 ?_)
   refine ⟨(i+1,G++[.arr 5 0 [r.av],.arr 7 0 [c.av]]),⟨rfl,?_⟩,by simp only;omega,by simp only;omega⟩
   simp only [hc];rfl
 ·obtain rfl:i=ys.length:=by omega
  rw [List.take_length]
  repeat' (first|refine YS rfl ?_|refine ZE ?_|refine ZD ?_|refine ZF rfl ?_|refine ZB rfl ?_|refine ZC ?_|(refine Zh rfl rfl (fun _=>?_) (fun _=>?_)<;>try (exfalso;omega))|refine ZG rfl ?_|refine ZQ ?_|refine Zs ?_|refine ZL ?_|refine Zd ?_|refine Zc rfl ?_|refine Zo ?_)
  all_goals try (exfalso;omega)
  exact ZDo hA (.inr rfl) rfl rfl (by simp) (fun v hv=>by obtain ⟨x,_,rfl⟩:=List.mem_map.1 hv;exact Zhi 2 x) rfl rfl
def ZEk:Nat->List (List UInt8)->Nat
 | n,[]=>n
 | n,t::ts=>if n<=900 then ZEk (n+min t.length 1000) ts else n
def ZRK (l:List (List UInt8)):Prop:=4<l.length\/900<ZEk 0 l
instance (l:List (List UInt8)):Decidable (ZRK l):=by unfold ZRK;infer_instance
theorem ZN5:∀ (l:List (List UInt8)) (n:Nat),n<=ZEk n l
 | [],n=>by simp [ZEk]
 | t::ts,n=>by
  rw [ZEk]
  by_cases h:n<=900
  ·rw [if_pos h];have:=ZN5 ts (n+min t.length 1000);omega
  ·rw [if_neg h];exact Nat.le_refl _
theorem Zb0:∀ (l:List (List UInt8)) (n:Nat),ZEk n l<=900->n+(l.map List.length).sum<=900
 | [],n,h=>by simpa [ZEk] using h
 | t::ts,n,h=>by
  rw [ZEk] at h
  by_cases hn:n<=900
  ·rw [if_pos hn] at h
   have h1:=ZN5 ts (n+min t.length 1000);have h2:=Zb0 ts _ h;rw [jC,List.sum_cons];omega
  ·rw [if_neg hn] at h;omega
theorem ZkD {α:Type} {l:List α} {i:Nat} {a:α} (h:l[i]?=some a):l.drop i=a::l.drop (i+1):=by
 obtain ⟨h1,h2⟩:=List.getElem?_eq_some_iff.1 h;subst h2;exact List.drop_eq_getElem_cons h1
theorem Zpk (l:List (List UInt8)) (hb:l.length<9223372036854775808) (hs:∀ s∈l,s.length<9223372036854775808) (st:St):S Tb Xs [.lit (l.map .str)] st=some (.bool (decide (ZRK l)),st):=by
 refine QJ rfl (fun A hA=>?_)
 repeat' (first|refine ZE ?_|refine ZD ?_|refine ZF rfl ?_|refine ZB rfl ?_|refine ZC ?_|refine ZJ ?_)
 refine Zx (α:=Nat × Nat) (fun p=>[(0,.lit (l.map .str)),(3,.int .i64 p.2),(4,.int .i64 p.1)]) (fun p=>⟨A,false,[]⟩) (fun p=>p.1<=l.length/\p.2<=1900/\ZEk p.2 (l.drop p.1)=ZEk 0 l) (fun p=>l.length-p.1) (0,0) rfl rfl ⟨Nat.zero_le _,Nat.zero_le _,rfl⟩ ?_
 rintro ⟨i,n⟩ ⟨h1,h2,h3⟩
 simp only at h1 h2 h3 ⊢
 repeat' (first|refine ZE ?_|refine ZD ?_|refine ZF rfl ?_|refine QE rfl ?_|refine Jq rfl rfl ?_|refine Zn rfl rfl rfl rfl ?_|refine ZB rfl ?_|refine ZC ?_|refine Jc rfl ?_|refine QG rfl ?_|refine QI rfl rfl ?_|refine J2 rfl rfl (by omega) (fun _=>rfl) (fun _ _=>?_)|(refine Zh rfl rfl (fun _=>?_) (fun _=>?_)<;>try (exfalso;omega))|(refine ZB8 rfl rfl (fun _=>?_) (fun _=>?_)<;>try (exfalso;omega))|(refine Qe rfl rfl (fun _=>?_) (fun _=>?_)<;>try (exfalso;omega))|refine ZV rfl ?_|refine ZG rfl ?_|refine ZcZ rfl rfl ?_|refine ZI ?_|refine ZQ ?_|refine Zs ?_|refine ZJ ?_|refine ZL ?_|refine Zd ?_|refine Zc rfl ?_|refine Zo ?_)
 ·rename_i hlt hn x hx
  have hx':l[i]?=some x:=by rw [show i=((i:Nat):Int).toNat by omega];exact hx
  have hxl:=hs x (jM hx')
  have e1:(if false=true then max (x.length:Int) 1000 else min (x.length:Int) 1000)=((min x.length 1000:Nat):Int):=by
   simp only [jB,if_false];omega
  rw [e1]
  refine Zj rfl rfl (by omega) ?_
  rw [show (n:Int)+((min x.length 1000:Nat):Int)=((n+min x.length 1000:Nat):Int) by omega]
  repeat' (first|refine ZD ?_|refine ZF rfl ?_|refine ZB rfl ?_|refine ZC ?_|refine Zj rfl rfl (by omega) ?_|refine Zy ?_|refine Z8 ?_)
  refine ⟨(i+1,n+min x.length 1000),⟨rfl,rfl⟩,⟨by simp only;omega,by simp only;omega,?_⟩,by simp only;omega⟩
  rw [<- h3,ZkD hx',ZEk,if_pos (by omega)]
 ·refine ZAs hA (by first|exact .inl rfl|exact .inr rfl) rfl rfl ?_
  exact (decide_eq_true (.inl (by omega))).symm
 ·refine ZAs hA (by first|exact .inl rfl|exact .inr rfl) rfl rfl ?_
  refine (decide_eq_true (.inr ?_)).symm
  have:=ZN5 (l.drop i) n
  omega
 ·refine ZAs hA (by first|exact .inl rfl|exact .inr rfl) rfl rfl ?_
  exact (decide_eq_true (.inl (by omega))).symm
 ·refine ZAs hA (by first|exact .inl rfl|exact .inr rfl) rfl rfl ?_
  refine (decide_eq_true (.inr ?_)).symm
  have:=ZN5 (l.drop i) n
  omega
 ·refine ZAs hA (by first|exact .inl rfl|exact .inr rfl) rfl rfl ?_
  refine (decide_eq_false ?_).symm
  have:l.drop i=[]:=List.drop_eq_nil_of_le (by omega)
  rw [this,ZEk] at h3
  rintro (h|h)<;>omega
structure Stp where
 what:Nat
 at_:Int
 n:Int
 text:List UInt8
def ZqI (l:List Stp):Prop:=(∃ s∈l.take 100,200<s.text.length)\/30<l.length
open Classical in
noncomputable instance (l:List Stp):Decidable (ZqI l):=Classical.propDecidable _
theorem ZmA {l:List (List UInt8)} (h:¬ ZRK l):l.length<=4/\(l.map List.length).sum<=900:=by
 have h1:¬ 4<l.length:=fun q=>h (.inl q)
 have h2:¬ 900<ZEk 0 l:=fun q=>h (.inr q)
 have:=Zb0 l 0 (by omega)
 exact ⟨by omega,by omega⟩
def ZYZ (l:List Ed):Prop:=(∃ s∈l.take 100,200<s.text.length)\/60<l.length
open Classical in
noncomputable instance (l:List Ed):Decidable (ZYZ l):=Classical.propDecidable _
theorem ZmB (l:List Ed) (hb:l.length<9223372036854775808) (hs:∀ s∈l,s.text.length<9223372036854775808) (st:St):S Tb Xt [.lit (l.map Ed.av)] st=some (.bool (decide (ZYZ l)),st):=by
 refine QJ rfl (fun A hA=>?_)
 repeat' (first|refine ZE ?_|refine ZD ?_|refine ZF rfl ?_|refine ZB rfl ?_|refine ZC ?_|refine ZJ ?_)
 refine Zx (α:=Nat) (fun i=>[(0,.lit (l.map Ed.av)),(3,.int .i64 i)]) (fun p=>⟨A,false,[]⟩) (fun i=>i<=l.length/\i<=100/\∀ j s,j<i->l[j]?=some s->s.text.length<=200) (fun i=>l.length-i) 0 rfl rfl ⟨Nat.zero_le _,Nat.zero_le _,fun j s h=>by omega⟩ ?_
 rintro i ⟨h1,h2,h3⟩
 have key:∀ {j:Nat} {s:Ed},(l.length:Int)<=i\/100<=(i:Int)->s∈l.take 100->s.text.length<=200:=by
  intro j s hi hm;obtain ⟨j,hj⟩:=List.mem_iff_getElem?.1 hm;have hj1:=(List.getElem?_eq_some_iff.1 hj).1;rw [List.length_take] at hj1
  rw [List.getElem?_take,if_pos (by omega)] at hj
  exact h3 j s (by omega) hj
 repeat' (first|refine ZE ?_|refine ZD ?_|refine ZF rfl ?_|refine ZU rfl rfl ?_|refine QE rfl ?_|refine Jq rfl rfl ?_|refine Zn rfl rfl rfl rfl ?_|refine ZB rfl ?_|refine ZC ?_|refine Jc rfl ?_|refine QG rfl ?_|refine QI rfl rfl ?_|refine J2 rfl rfl (by omega) (fun _=>rfl) (fun _ _=>?_)|(refine Zh rfl rfl (fun _=>?_) (fun _=>?_)<;>try (exfalso;omega))|(refine Qe rfl rfl (fun _=>?_) (fun _=>?_)<;>try (exfalso;omega))|refine ZV rfl ?_|refine ZG rfl ?_|refine Zj rfl rfl (by omega) ?_|refine ZI ?_|refine ZQ ?_|refine Zs ?_|refine ZJ ?_|refine ZL ?_|refine Za ?_|refine Zd ?_|refine Zy ?_|refine Qk ?_|refine Zc rfl ?_|refine Z8 ?_|refine ZEz ?_|refine Zo ?_)
 ·rename_i hlt hn s hs' hbig
  have hs1:l[i]?=some s:=by rw [show i=((i:Nat):Int).toNat by omega];exact hs'
  refine ZAs hA (by first|exact .inl rfl|exact .inr rfl) rfl rfl ?_
  refine (decide_eq_true (.inl ⟨s,?_,by omega⟩)).symm
  refine List.mem_iff_getElem?.2 ⟨i,?_⟩
  rw [List.getElem?_take,if_pos (by omega)];exact hs1
 ·rename_i hlt hn s hs' hbig
  have hs1:l[i]?=some s:=by rw [show i=((i:Nat):Int).toNat by omega];exact hs'
  refine ⟨i+1,⟨rfl,rfl⟩,⟨by omega,by omega,fun j s2 hj h=>?_⟩,by omega⟩
  rcases Nat.lt_or_ge j i with q|q
  ·exact h3 j s2 q h
  ·obtain rfl:j=i:=by omega
   rw [hs1] at h
   have:=Option.some.inj h
   subst this;omega
 ·refine ZAs hA (by first|exact .inl rfl|exact .inr rfl) rfl rfl ?_
  exact (decide_eq_true (.inr (by omega))).symm
 ·refine ZAs hA (by first|exact .inl rfl|exact .inr rfl) rfl rfl ?_
  exact (decide_eq_true (.inr (by omega))).symm
 ·refine ZAs hA (by first|exact .inl rfl|exact .inr rfl) rfl rfl ?_
  refine (decide_eq_false ?_).symm
  rintro (⟨s,h,hh⟩|h)
  ·have:=key (j:=0) (s:=s) (.inl (by omega)) h
   omega
  ·omega
theorem ZmC {l:List Ed} (h:¬ ZYZ l):l.length<=60/\∀ s∈l,s.text.length<=200:=by
 have h1:l.length<=60:=by
  rcases Nat.lt_or_ge 60 l.length with q|q
  ·exact absurd (.inr q) h
  ·exact q
 refine ⟨h1,fun s hs=>?_⟩
 rcases Nat.lt_or_ge 200 s.text.length with q|q
 ·refine absurd (.inl ⟨s,?_,q⟩) h
  rw [List.take_of_length_le (by omega)];exact hs
 ·exact q
end Go.Q15
namespace Go.QAbs
end Go.QAbs
namespace Go.Q15
open Go Go.QAbs
set_option maxRecDepth 100000
set_option maxHeartbeats 8000000
def ZgL (r:AR) (o:Nat):Prop:=ZBp o/\r.states[o % 65536]?=some 1/\r.gens[o % 65536]?=some ((o / 65536:Nat):Int)
instance (r:AR) (o:Nat):Decidable (ZgL r o):=by unfold ZgL;exact inferInstance
theorem AROk.live {r:AR} (h:AROk r) {o:Nat} {x:Nd} (hx:lk r.nodes o=some x):ZgL r o/\o<18446744073709551616:=by
 obtain ⟨s,g,k1,k2,k3,k4⟩:=h.key o x hx;obtain ⟨h1,h2⟩:=h.hnd hx
 have:=h.n16
 have hm:o % 65536=s:=by omega
 have hd:o / 65536=g:=by omega
 unfold ZgL;rw [hm,hd];refine ⟨⟨h1,k3,k4⟩,?_⟩;unfold ZBp at h1;omega
theorem Zpl {l:List Nat} {i:Nat} {x:Nat} (h:l[i]?=some x):(l.map Zu)[0+((i:Nat):Int).toNat]?=some (.int .u64 x):=by
 rw [show 0+((i:Nat):Int).toNat=i by omega,jG,h];rfl
theorem ZgM {l:List Nat} {i x h:Nat} (hx:l[i]?=some x) (hn:h∉l.take i) (e:x≠h):h∉l.take (i+1):=by
 rw [Zb hx,List.mem_append,List.mem_singleton]
 exact fun q=>q.elim hn fun q=>e q.symm
theorem ZeL {st:St} {lv ix ver:Nat} {l:List Nat} {n:Nat} (hn:n=l.length) (hg:st.get lv ix=some (.arr 1 ver (l.map Zu))) (hb:l.length<4294967296) (h:Nat) :
 S Tb QS [.ref lv ix ver 0 n,.int .u64 h] st=some (.bool (decide (h∈l)),st):=by
 refine QJ rfl (fun A hA=>?_)
 subst hn
 have g:=fun L=>ZS hA (ro:=false) (L:=L) hg
 have hw:∀ L,wIs 1 ver (St.get ⟨A,false,L⟩ lv ix)=true:=fun L=>by rw [g];simp [wIs]
 repeat' (first|refine ZE ?_|refine ZD ?_|refine ZF rfl ?_|refine ZB rfl ?_|refine ZC ?_|refine ZJ ?_)
 refine Zx (α:=Nat) (fun i=>[(0,.ref lv ix ver 0 l.length),(1,.int .u64 h),(5,.int .i64 i)]) (fun i=>⟨A,false,[]⟩) (fun i=>i<=l.length/\h∉l.take i) (fun i=>l.length-i) 0 rfl rfl ⟨by omega,by simp⟩ ?_
 rintro i ⟨hi,hni⟩
 rcases Nat.lt_or_ge i l.length with hlt|hge
 ·obtain ⟨x,hx⟩:∃ x,l[i]?=some x:=⟨l[i]'hlt,jE _⟩
  have q:=Zpl hx
  repeat' (first|refine ZE ?_|refine ZD ?_|refine ZF rfl ?_|refine ZB rfl ?_|refine ZC ?_|refine Qd rfl ?_|(refine Zh rfl rfl (fun _=>?_) (fun _=>?_)<;>try (exfalso;omega))|(refine Zp rfl rfl (fun _=>?_) (fun _=>?_)<;>try (exfalso;omega))|refine ZV rfl ?_|refine ZG rfl ?_|refine Zj rfl rfl (by omega) ?_|refine Y4 rfl rfl (by omega) (hw _) ?_|refine Z9 rfl (g _) q rfl ?_|refine ZI ?_|refine ZQ ?_|refine ZJ ?_|refine ZL ?_|refine Za ?_|refine Zy ?_|refine Qk ?_|refine Z8 ?_|refine ZEz ?_)
  all_goals try (exfalso;omega)
  ·rename_i e
   obtain rfl:x=h:=by omega
   rw [decide_eq_true (jM hx)]
   refine Zg hA (by first|exact .inl rfl|exact .inr rfl) rfl rfl rfl rfl ?_
   rfl
  ·rename_i e
   exact ⟨i+1,⟨rfl,rfl⟩,⟨by omega,ZgM hx hni (by omega)⟩,by omega⟩
 ·obtain rfl:i=l.length:=by omega
  rw [List.take_length] at hni;rw [decide_eq_false hni]
  repeat' (first|refine ZE ?_|refine ZD ?_|refine ZF rfl ?_|refine ZB rfl ?_|refine ZC ?_|refine Qd rfl ?_|(refine Zh rfl rfl (fun _=>?_) (fun _=>?_)<;>try (exfalso;omega))|refine ZG rfl ?_|refine ZQ ?_|refine Zs ?_|refine ZL ?_|refine Zd ?_|refine Zc rfl ?_|refine Zo ?_)
  all_goals try (exfalso;omega)
  refine Zg hA (by first|exact .inl rfl|exact .inr rfl) rfl rfl rfl rfl ?_
  rfl
theorem ZN6 (l:List Nat) (hb:l.length<4294967296) (h:Nat) (st:St) :
 S Tb QS [.lit (l.map Zu),.int .u64 h] st=some (.bool (decide (h∈l)),st):=by
 refine QJ rfl (fun A hA=>?_)
 repeat' (first|refine ZE ?_|refine ZD ?_|refine ZF rfl ?_|refine ZB rfl ?_|refine ZC ?_|refine ZJ ?_)
 refine Zx (α:=Nat) (fun i=>[(0,.lit (l.map Zu)),(1,.int .u64 h),(5,.int .i64 i)]) (fun i=>⟨A,false,[]⟩) (fun i=>i<=l.length/\h∉l.take i) (fun i=>l.length-i) 0 rfl rfl ⟨by omega,by simp⟩ ?_
 rintro i ⟨hi,hni⟩
 rcases Nat.lt_or_ge i l.length with hlt|hge
 ·obtain ⟨x,hx⟩:∃ x,l[i]?=some x:=⟨l[i]'hlt,jE _⟩
  have q:0<=((i:Nat):Int)/\l[((i:Nat):Int).toNat]?=some x:=⟨by omega,by rw [show ((i:Nat):Int).toNat=i by omega];exact hx⟩
  repeat' (first|refine JC rfl rfl q (fun _=>rfl) ?_|refine ZE ?_|refine ZD ?_|refine ZF rfl ?_|refine ZB rfl ?_|refine ZC ?_|refine QG rfl ?_|refine QI rfl rfl ?_|(refine Zh rfl rfl (fun _=>?_) (fun _=>?_)<;>try (exfalso;omega))|(refine Zp rfl rfl (fun _=>?_) (fun _=>?_)<;>try (exfalso;omega))|refine ZV rfl ?_|refine ZG rfl ?_|refine Zj rfl rfl (by omega) ?_|refine ZI ?_|refine ZQ ?_|refine ZJ ?_|refine ZL ?_|refine Za ?_|refine Zy ?_|refine Qk ?_|refine Z8 ?_|refine ZEz ?_)
  all_goals try (exfalso;omega)
  ·rename_i e
   obtain rfl:x=h:=by omega
   rw [decide_eq_true (jM hx)]
   refine Zg hA (by first|exact .inl rfl|exact .inr rfl) rfl rfl rfl rfl ?_
   rfl
  ·rename_i e
   exact ⟨i+1,⟨rfl,rfl⟩,⟨by omega,ZgM hx hni (by omega)⟩,by omega⟩
 ·obtain rfl:i=l.length:=by omega
  rw [List.take_length] at hni;rw [decide_eq_false hni]
  repeat' (first|refine ZE ?_|refine ZD ?_|refine ZF rfl ?_|refine ZB rfl ?_|refine ZC ?_|refine QG rfl ?_|(refine Zh rfl rfl (fun _=>?_) (fun _=>?_)<;>try (exfalso;omega))|refine ZG rfl ?_|refine ZQ ?_|refine Zs ?_|refine ZL ?_|refine Zd ?_|refine Zc rfl ?_|refine Zo ?_)
  all_goals try (exfalso;omega)
  refine Zg hA (by first|exact .inl rfl|exact .inr rfl) rfl rfl rfl rfl ?_
  rfl
theorem ZgN:∀ {l:List Nat},l.Nodup->QR l=l:=by
 intro l
 have key:∀ (l w:List Nat),(w++l).Nodup->l.foldl QL w=w++l:=by
  intro l
  induction l with
  | nil=>intro w _;simp
  | cons a l ih =>
   intro w h
   have ha:a∉w:=fun q=>by
    rw [List.nodup_append] at h
    exact h.2.2 a q a (by simp) rfl
   rw [List.foldl_cons];unfold QL;rw [if_neg ha]
   have e:w++a::l=w++[a]++l:=by simp
   rw [e] at h ⊢;exact ih _ h
 intro h
 have:=key l [] (by simpa using h)
 rwa [lE] at this
theorem Zpm (l:List Nat) (hb:l.length<1000000000) (st:St) :
 S Tb Jx [.lit (l.map Zu)] st=some (.lit ((QR l).map Zu),st):=by
 refine QJ rfl (fun A hA=>?_)
 repeat' (first|refine ZE ?_|refine ZD ?_|refine ZF rfl ?_|refine ZB rfl ?_|refine ZC ?_|refine YF rfl ?_|refine ZJ ?_)
 refine Zx (α:=Nat) (fun i=>[(0,.lit (l.map Zu)),(3,.ref A.length 0 (QR (l.take i)).length 0 (QR (l.take i)).length),(4,.int .i64 i)]) (fun i=>⟨A,false,[.arr 1 (QR (l.take i)).length ((QR (l.take i)).map Zu)]⟩) (fun i=>i<=l.length) (fun i=>l.length-i) 0 rfl rfl (by omega) ?_
 rintro i hi
 replace hi:i<=l.length:=hi;have hw:=(Ye (l.take i)).2.2;rw [List.length_take,Nat.min_eq_left hi] at hw
 rcases Nat.lt_or_ge i l.length with hlt|hge
 ·obtain ⟨x,hx⟩:∃ x,l[i]?=some x:=⟨l[i]'hlt,jE _⟩
  have q:0<=((i:Nat):Int)/\l[((i:Nat):Int).toNat]?=some x:=⟨by omega,by rw [show ((i:Nat):Int).toNat=i by omega];exact hx⟩
  have hs:QR (l.take (i+1))=QL (QR (l.take i)) x:=by rw [Zb hx,ZLS]
  generalize QR (l.take i)=w at *
  have hH:=ZeL (st:=⟨A,false,[.arr 1 w.length (w.map Zu)]⟩) (lv:=A.length) (ix:=0) (ver:=w.length) (l:=w) rfl (St.get_cur ..) (by omega) x
  have hl2:(w.map Zu).length+[AV.int .u64 (x:Int)].length<4294967296:=by simp;omega
  have hl3:w.length=(w.map Zu).length:=by simp
  by_cases hm:x∈w
  ·simp only [decide_eq_true hm] at hH
   repeat' (first|refine JC rfl rfl q (fun _=>rfl) ?_|refine ZE ?_|refine ZD ?_|refine ZF rfl ?_|refine ZB rfl ?_|refine ZC ?_|refine QG rfl ?_|refine QI rfl rfl ?_|(refine Zh rfl rfl (fun _=>?_) (fun _=>?_)<;>try (exfalso;omega))|refine ZV rfl ?_|refine ZG rfl ?_|refine QZ rfl rfl ?_|refine Zj rfl rfl (by omega) ?_|refine ZA rfl rfl rfl (hH) ?_|refine ZI ?_|refine ZJ ?_|refine Zy ?_|refine Z8 ?_)
   all_goals try (exfalso;omega)
   all_goals try contradiction
   refine ⟨i+1,⟨?_,?_⟩,by omega,by omega⟩
   ·rw [hs];unfold QL;rw [if_pos hm];rfl
   ·rw [hs];unfold QL;rw [if_pos hm]
  ·simp only [decide_eq_false hm] at hH
   repeat' (first|refine JC rfl rfl q (fun _=>rfl) ?_|refine Yw rfl rfl rfl hl3 rfl rfl hl2 (by decide) ?_|refine ZE ?_|refine ZD ?_|refine ZF rfl ?_|refine ZB rfl ?_|refine ZC ?_|refine QG rfl ?_|refine QI rfl rfl ?_|(refine Zh rfl rfl (fun _=>?_) (fun _=>?_)<;>try (exfalso;omega))|refine ZV rfl ?_|refine QZ rfl rfl ?_|refine Zj rfl rfl (by omega) ?_|refine QK rfl rfl rfl rfl ?_|refine ZA rfl rfl rfl (hH) ?_|refine ZI ?_|refine ZJ ?_|refine Zy ?_|refine Z8 ?_)
   all_goals try (exfalso;omega)
   all_goals try contradiction
   refine ⟨i+1,⟨?_,?_⟩,by omega,by omega⟩
   ·rw [hs];unfold QL;rw [if_neg hm,lL];rfl
   ·rw [hs];unfold QL;rw [if_neg hm,lL,List.map_append];rfl
 ·obtain rfl:i=l.length:=by omega
  rw [List.take_length]
  repeat' (first|refine ZE ?_|refine ZD ?_|refine ZF rfl ?_|refine ZB rfl ?_|refine ZC ?_|refine QG rfl ?_|(refine Zh rfl rfl (fun _=>?_) (fun _=>?_)<;>try (exfalso;omega))|refine ZG rfl ?_|refine ZQ ?_|refine Zs ?_|refine ZL ?_|refine Zd ?_|refine Zc rfl ?_|refine Zo ?_)
  all_goals try (exfalso;omega)
  refine ZAr (es:=(QR l).map Zu) hA (.inr rfl) rfl rfl (by simp) (by intro v hv;obtain ⟨x,_,rfl⟩:=List.mem_map.1 hv;rfl) ?_
  rfl
set_option maxHeartbeats 16000000
theorem Zhy {ys:List Ed} {i:Nat} {y:Ed} (h:ys[i]?=some y):((ys.map Ed.av).drop i).take (i+1-i)=[y].map Ed.av:=by
 rw [<- List.map_drop,<- List.map_take,show i+1-i=1 by omega]
 obtain ⟨h1,h2⟩:=List.getElem?_eq_some_iff.1 h;rw [List.drop_eq_getElem_cons h1,h2];rfl
theorem ZmD (ys:List Ed):Q2 5 (ys.map Ed.av)=true:=by
 induction ys with
 | nil=>rfl
 | cons b s ih=>rw [jC,Q2,List.all_cons];exact Bool.and_eq_true_iff.2 ⟨rfl,ih⟩
theorem Zix {O:Orc} {k:List Fr} {Q:YO} {e:Env} {st:St} {keep:List Nat} {is:List QAbs.PI} {d:Nat} {ys:List Ed} {i:Nat} {y:Ed} {x a b:Opd} {z:Int} (hx:Zf e x=some (.lit (ys.map Ed.av))) (ha:Zf e a=some (.int .i64 i)) (hb:Zf e b=some (.int .i64 z)) (hz:z=i+1) (hy:ys[i]?=some y)
 (h:Is O is keep k Q ((d,.lit ([y].map Ed.av))::e) st):Is O (⟨some d,none,false,.slc 5 x (some a) (some b)⟩::is) keep k Q e st:=by
 have hlt:=(List.getElem?_eq_some_iff.1 hy).1;refine Zcb (r:=i+1) (l:=i) hx ?_ ?_ (ZmD _) ?_
 ·simp only [ZCr,ZH hb,Jg,List.length_map]
  rw [if_pos (by omega)];congr 1;omega
 ·simp only [ZCr,ZH ha,Jg]
  rw [if_pos (by omega)];rfl
 ·rw [Zhy hy];exact h
theorem Zpn {texts:List (List UInt8)} {ys:List Ed} (hl:¬ ZRK texts) (hm:¬ ZYZ ys):(texts.flatten.length<=900/\texts.length<=4)/\ys.length<=60/\∀ y∈ys,y.text.length<=200:=by
 refine ⟨?_,ZmC hm⟩
 have:=ZmA hl
 rw [List.length_flatten];omega
theorem Zhz {texts:List (List UInt8)} (h9:texts.flatten.length<=900):∀ s∈texts,s.length<=900:=by
 intro s hs;obtain ⟨i,hi,rfl⟩:=List.getElem_of_mem hs;have h1:=ZIw (l:=texts) (jE hi);have h2:=ZJK texts (i+1);rw [h1,lL] at h2;omega
theorem ZgO:∀ (n:Nat) (l:List Nat),l.Nodup->(∀ x∈l,x<n)->l.length<=n:=by
 intro n
 induction n with
 | zero=>intro l _ h;cases l with
  | nil=>exact Nat.le_refl _
  | cons a l=>have:=h a (by simp);omega
 | succ n ih =>
  intro l hd h
  by_cases hm:n∈l
  ·have := ih (l.erase n) (hd.erase n) (fun x hx => by
    have h1:=h x (List.mem_of_mem_erase hx)
    have h2:x≠n:=fun e=>by subst e;exact hd.not_mem_erase hx
    omega)
   rw [List.length_erase_of_mem hm] at this;omega
  ·have := ih l hd (fun x hx => by
    have h1:=h x hx
    have h2:x≠n:=fun e=>hm (e▸hx)
    omega)
   omega
theorem AROk.few {r:AR} (h:AROk r) {l:List Nat} (hd:l.Nodup) (hl:∀ o∈l,∃ x,lk r.nodes o=some x):l.length<=16384:=by
 have h16:=h.n16
 have key:∀ o∈l,ZgL r o:=fun o ho=>by obtain ⟨x,hx⟩:=hl o ho;exact (h.live hx).1
 have h1:(l.map (· % 65536)).Nodup:=by
  unfold List.Nodup at hd ⊢;rw [List.pairwise_map]
  refine hd.imp_of_mem (fun {p o} hp ho hne e=>hne ?_)
  have a:=(key p hp).2.2;have c:=(key o ho).2.2;rw [e,c] at a
  have:=Option.some.inj a
  omega
 have:=ZgO r.states.length _ h1 (fun x hx=>by
  obtain ⟨o,ho,rfl⟩:=List.mem_map.1 hx
  exact (List.getElem?_eq_some_iff.1 (key o ho).2.1).1)
 rw [List.length_map] at this;omega
theorem ZmE (texts:List (List UInt8)) (hl:texts.flatten.length<=900):∀ i,i<=texts.length->(XS (texts.take i)).1.nodes.length+(XS (texts.take i)).1.n=1500:=by
 intro i
 induction i with
 | zero=>intro _;simp [XS,JH]
 | succ i ih =>
  intro hi
  obtain ⟨s,hs⟩:∃ s,texts[i]?=some s:=⟨texts[i]'(by omega),by simp [show i<texts.length by omega]⟩
  have hl2:=ZJK texts (i+1)
  have h:=ZYY texts hl i (by omega)
  obtain ⟨hn,_⟩:=ZYX (s:=s) h (by rw [<- Zb hs];omega)
  have hfl:=ZIw hs
  have hs2:s.length<=900:=by rw [hfl,lL] at hl2;omega
  obtain ⟨b1,b2,b3⟩:=XO h.good (show s.length<=65536 by omega)
  obtain ⟨w1,_⟩:=ZRJ (Yy [] [] [] _) h.ok h.good b1 (by rw [b3];omega) hn
  have h1:=w1.n;have h2:=w1.nl
  have h3:=ih (by omega)
  rw [Zb hs,ZLT]
  show (wrV (Qm s) _).1.nodes.length+(wrV (Qm s) _).1.n=1500
  omega
theorem ZmF {N:ZP} (hN:GoodN N) {ros:List Ro} (h:PlanOk N ros) {y:Ed} (hy:y.text.length<=200) {B:Int} (hB:0<=B) (hr:∀ r∈ros,r.m.b<=B):(ZCo N ros y).bytes<=B+200:=by
 unfold ZCo
 match hq:Zbz ros y.n with
 | none =>
  obtain ⟨b1,b2,b3⟩:=XO hN (s:=y.text) (by omega)
  show (Qm y.text).bytes<=_;omega
 | some r =>
  have hm:=jM (show ros[_]?=some r from hq)
  obtain ⟨h1,h2,h3,h4⟩:=h.rt r hm;have h5:=hr r hm;have p1:=Qi (x:=y.at_) h3
  have p2:=Qi (x:=y.len) (n:=r.m.b-JI y.at_ r.m.b) (by omega)
  have:=ZNs hN (s:=y.text) h1.keep (a:=JI y.at_ r.m.b) (n:=JI y.len (r.m.b-JI y.at_ r.m.b)) p1.1 p2.1 (by omega) (by omega) (by omega)
  show (Tr.own _).bytes<=_
  rw [ZEj,this.bytes];omega
structure MkInv (r:AR) (ros:List Ro) (ss:List (List UInt8)) (n:Nat) (B:Nat):Prop where
 ok:AROk r
 good:GoodN r.nodes
 rts:Rts r.nodes ros ss
 len:ros.length=n
 n20:n<=20
 small:∀ s∈ss,s.length<=B
 nl:r.nodes.length+r.n=1500
theorem MkInv.plan {r:AR} {ros:List Ro} {ss:List (List UInt8)} {n B:Nat} (h:MkInv r ros ss n B) (hB:B<=60000):PlanOk r.nodes ros:=h.rts.plan h.good (by have:=h.len;have:=h.n20;omega) (fun s hs=>by have:=h.small s hs;omega)
theorem MkInv.mb {r:AR} {ros:List Ro} {ss:List (List UInt8)} {n B:Nat} (h:MkInv r ros ss n B):∀ ro∈ros,ro.m.b<=(B:Int):=by
 intro ro hr;obtain ⟨i,hi,rfl⟩:=List.getElem_of_mem hr
 have hi2:i<ss.length:=by rw [<- h.rts.1];exact hi
 have g:=h.rts.2 i _ _ (jE hi) (jE hi2)
 have:=(g.b h.good).2
 have:=h.small _ (List.getElem_mem hi2)
 omega
def bel (N:ZP):Nat->Nat->List Nat->List Nat
 | 0,h,s=>if h∈s then s else s++[h]
 | n+1,h,s=>if h∈s then s else (ZCn N h).ks.foldl (fun s k=>bel N n k.at_ s) (s++[h])
structure Visit (τ:List Nat->List Nat->St) (lm mx:Nat) (g:FuncId) (caps:List AV):Prop where
 len:∀ u w u' w',(τ u w).ps.length=(τ u' w').ps.length
 wr:∀ u w,(τ u w).wr lm
 get:∀ u w,(τ u w).get lm mx=some (.map (YD u))
 upd:∀ u w v,(τ u w).upd lm mx (.map (YD v))=τ v w
 call:∀ u w h more L,w.length<1000000000->∃ v,S Tb g ([.int .u64 (h:Nat)]++caps) ⟨(τ u w).ps++more,false,L⟩=some (v,⟨(τ u (w++[h])).ps++more,false,L⟩)
 wk:∀ h:Nat,ZX (ZZ ([]++[.int .u64 (h:Nat)]++caps))=some ([.int .u64 (h:Nat)]++caps)
 wk2:∀ la b h:Nat,ZX (ZZ ([]++[.ptr la b 0 0 0,.int .u64 (h:Nat),.map lm mx,.func (.func g) [] caps]++[]))=some [.ptr la b 0 0 0,.int .u64 (h:Nat),.map lm mx,.func (.func g) [] caps]
theorem ZmG {O:Orc} {k:List Fr} {Q:YO} {e:Env} {L:List Blk} {keep:List Nat} {is:List QAbs.PI} {s0:St} {more:List (Bool × List Blk)} {x i v:Opd} {lv ix h:Nat} {w:AV} {es es':List (AV × AV)} (hx:Zf e x=some (.map lv ix)) (hi:Zf e i=some (.int .u64 h)) (hv:Zf e v=some w) (hw:s0.wr lv) (hg:s0.get lv ix=some (.map es))
 (hs:ZY QD (lv+1) ⟨s0.ps++more,false,L⟩ w=some (w,⟨s0.ps++more,false,L⟩)) (hp:ZEn (.int .u64 h) w es=some es')
 (hh:Is O is keep k Q e ⟨(s0.upd lv ix (.map es')).ps++more,false,L⟩):Is O (⟨none,none,false,.mupd 0 x i v⟩::is) keep k Q e ⟨s0.ps++more,false,L⟩:=by
 have hl:=St.get_le hg;have g':=ZBz hg more false L;have w':=Zis hl hw more false L;refine Z4 (od:=none) (v:=.undef) (st':=St.upd ⟨s0.ps++more,false,L⟩ lv ix (.map es')) ?_ ?_
 ·simp only [Zi,evalPO,ZH hx,ZH hi,ZH hv,ZJs,Yg,if_true,hs,oS,ZLW,g',ZLV,hp,St.put_upd w' g',ZBI]
 ·rw [ZgG hl];exact hh
theorem ZgP {N:ZP} {n P:Nat} (ih:∀ (h:Nat) (s:List Nat) (x:Nd),lk N h=some x->x.h=n->3*(bel N n h s).length+1<=3*s.length+P):∀ (ks:List Kid) (s:List Nat),(∀ k∈ks,∃ y,lk N k.at_=some y/\y.h=n)->3*(ks.foldl (fun s k=>bel N n k.at_ s) s).length+ks.length<=3*s.length+ks.length*P:=by
 intro ks
 induction ks with
 | nil=>intro s _;simp
 | cons k l ihl =>
  intro s hk;rw [List.foldl_cons]
  obtain ⟨y,y1,y2⟩:=hk k (by simp)
  have a1:=ih k.at_ s y y1 y2
  have a2:=ihl (bel N n k.at_ s) (fun z hz=>hk z (List.mem_cons_of_mem _ hz))
  rw [List.length_cons,Nat.add_mul];omega
theorem Zob {N:ZP} (hN:GoodN N):∀ (n h:Nat) (s:List Nat) (x:Nd),lk N h=some x->x.h=n->3*(bel N n h s).length+1<=3*s.length+4 ^ (n+1):=by
 intro n
 induction n with
 | zero =>
  intro h s x hx hh;rw [bel]
  split
  ·omega
  ·rw [lL];simp;omega
 | succ n ih =>
  intro h s x hx hh;rw [bel,JD hx]
  have hp:4 ^ (n+1+1)=4*4 ^ (n+1):=by rw [Nat.pow_succ];omega
  have h1:0<4 ^ (n+1):=Nat.pow_pos (by decide)
  split
  ·omega
  ·have hk4:=(hN h x hx).1.len
   have hkids:=(hN h x hx).2
   have:=ZgP ih x.ks (s++[h]) (fun k hk=>by obtain ⟨_,y,y1,y2,_⟩:=hkids k hk;exact ⟨y,y1,by omega⟩)
   rw [lL,List.length_singleton] at this
   have h3:(4-x.ks.length)*4 ^ (n+1)+x.ks.length*4 ^ (n+1)=4*4 ^ (n+1):=by rw [<- Nat.add_mul];congr 1;omega
   have h4:(4-x.ks.length)*1<=(4-x.ks.length)*4 ^ (n+1):=Nat.mul_le_mul_left _ h1
   generalize 4 ^ (n+1)=P at *
   generalize (4-x.ks.length)*P=P1 at *
   generalize x.ks.length*P=P2 at *
   omega
theorem ZYa {τ:List Nat->List Nat->St} {lm mx:Nat} {g:FuncId} {caps:List AV} (hV:Visit τ lm mx g caps) {N:ZP} {la b:Nat} (hR:∀ u w,Rd (τ u w) la (b+5) N) {h:Nat} {x:Nd} (hx:lk N h=some x) (hk4:x.ks.length<=4) (s:List Nat) (hs:h∉s) (f:Kid->List Nat->List Nat) {B:Nat} (hB:B<=900000000)
 (hlen:∀ i,((x.ks.take i).foldl (fun s k=>f k s) (s++[h])).length<=B)
 (hf:∀ k∈x.ks,∀ (s:List Nat) (more:List (Bool × List Blk)) (L:List Blk),s.length<=B->S Tb JW [.ptr la (b+5) 0 0 0,.int .u64 k.at_,.map lm mx,.func (.func g) [] caps] ⟨(τ s s).ps++more,false,L⟩=some (.int .i64 0,⟨(τ (f k s) (f k s)).ps++more,false,L⟩))
 {more:List (Bool × List Blk)} {st st':St} (hst:st.ps=(τ s s).ps++more) (hst':st'.ps=(τ (x.ks.foldl (fun s k=>f k s) (s++[h])) (x.ks.foldl (fun s k=>f k s) (s++[h]))).ps++more) :
 S Tb JW [.ptr la (b+5) 0 0 0,.int .u64 h,.map lm mx,.func (.func g) [] caps] st=some (.int .i64 0,st'):=by
 refine ZBD rfl (fun A hA=>?_)
 have hA2:A=(τ s s).ps++more:=hA.trans hst;clear hA;subst hA2
 have hlk:=fun L=>ZF7 (ZBz (hV.get s s) more false L) h
 simp only [decide_eq_false hs] at hlk;have hl0:=hlen 0;simp only [List.take_zero,List.foldl_nil,lL,List.length_singleton] at hl0
 repeat' (first|refine ZE ?_|refine ZD ?_|refine ZF rfl ?_|refine ZB rfl ?_|refine ZC ?_|refine ZG rfl ?_|refine XH rfl rfl (hlk _) ?_|refine ZI ?_)
 all_goals try contradiction
 refine ZmG rfl rfl rfl (hV.wr s s) (hV.get s s) rfl (ZN1 h s hs) ?_;rw [hV.upd]
 have hG:=fun L=>Zft ((hR (s++[h]) s).more more false L) hx hk4
 have hcp:x.copy.av=.agg [.int .i64 x.h,.str x.text,.lit (x.ks.map Kid.av)]:=rfl;rw [hcp] at hG
 obtain ⟨v,hc⟩:=hV.call (s++[h]) s h more [.arr 3 0 [.agg [.int .i64 x.h,.str x.text,.lit (x.ks.map Kid.av)]]] (by omega)
 generalize hA1:(τ (s++[h]) s).ps++more=A1 at *
 repeat' (first|refine ZA rfl rfl (hV.wk h) hc ?_|refine ZE ?_|refine ZD ?_|refine ZF rfl ?_|refine ZU rfl rfl ?_|refine Zq rfl rfl ?_|refine ZB rfl ?_|refine ZC ?_|(refine Zl rfl rfl (fun _=>?_) (fun _=>?_)<;>try (exfalso;omega))|refine ZG rfl ?_|refine Ze rfl rfl rfl ?_|refine Zr rfl rfl rfl rfl rfl rfl ?_|refine ZA rfl rfl rfl (hG _) ?_|refine ZI ?_)
 all_goals try contradiction
 obtain ⟨A2,hA2⟩:∃ A2,A2=(τ (s++[h]) (s++[h])).ps++more:=⟨_,rfl⟩
 have e12:A1.length=A2.length:=by
  have:=hV.len (s++[h]) s (s++[h]) (s++[h])
  rw [<- hA1,hA2];simp only [lL] at this ⊢;omega
 rw [<- hA2,e12]
 repeat' (first|refine YS rfl ?_|refine ZF rfl ?_|refine ZO rfl rfl rfl rfl ?_|refine ZB rfl ?_|refine ZC ?_|refine ZJ ?_)
 refine Zx (α:=Nat × List Blk) (fun p=>[(0,.ptr la (b+5) 0 0 0),(2,.map lm mx),(3,.func (.func g) [] caps),(32,.lit (x.ks.map Kid.av)),(33,.int .i64 x.ks.length),(34,.int .i64 p.1)])
  (fun p=>⟨(τ ((x.ks.take p.1).foldl (fun s k=>f k s) (s++[h])) ((x.ks.take p.1).foldl (fun s k=>f k s) (s++[h]))).ps++more,false,.arr 3 0 [.agg [.int .i64 x.h,.str x.text,.lit (x.ks.map Kid.av)]]::p.2⟩) (fun p=>p.1<=x.ks.length) (fun p=>x.ks.length-p.1) (0,[]) rfl (by rw [hA2];rfl) (Nat.zero_le _) ?_
 rintro ⟨i,G⟩ hi
 simp only at hi ⊢
 rcases Nat.lt_or_ge i x.ks.length with hlt|hge
 ·obtain ⟨kd,hk⟩:∃ k,x.ks[i]?=some k:=⟨x.ks[i]'hlt,jE _⟩
  have qk:0<=((i:Nat):Int)/\x.ks[((i:Nat):Int).toNat]?=some kd:=⟨by omega,by rw [show ((i:Nat):Int).toNat=i by omega];exact hk⟩
  have hcl:=fun L=>hf kd (jM hk) _ more L (hlen i)
  have hnx:(x.ks.take (i+1)).foldl (fun s k=>f k s) (s++[h])=f kd ((x.ks.take i).foldl (fun s k=>f k s) (s++[h])):=by
   rw [Zb hk,List.foldl_append];rfl
  rw [<- hnx] at hcl
  generalize hP:(τ ((x.ks.take (i+1)).foldl (fun s k=>f k s) (s++[h])) ((x.ks.take (i+1)).foldl (fun s k=>f k s) (s++[h]))).ps++more=P at *
  generalize (τ ((x.ks.take i).foldl (fun s k=>f k s) (s++[h])) ((x.ks.take i).foldl (fun s k=>f k s) (s++[h]))).ps++more=A3 at *
  repeat' (first|refine JC (f:=Kid.av) rfl rfl qk (fun _=>rfl) ?_|refine ZA rfl rfl (hV.wk2 _ _ _) (hcl _) ?_|refine ZE ?_|refine ZD ?_|refine ZF rfl ?_|refine ZU rfl rfl ?_|refine ZB rfl ?_|refine ZC ?_|refine Q1 rfl rfl rfl ?_|refine QI rfl rfl ?_|(refine Zh rfl rfl (fun _=>?_) (fun _=>?_)<;>try (exfalso;omega))|(refine Zl rfl rfl (fun _=>?_) (fun _=>?_)<;>try (exfalso;omega))|refine ZV rfl ?_|refine ZG rfl ?_|refine Zj rfl rfl (by omega) ?_|refine Z1 rfl rfl rfl ?_|refine Yr rfl rfl rfl rfl rfl rfl ?_|refine ZI ?_|refine ZJ ?_|refine Zy ?_|refine Z8 ?_)
  all_goals try contradiction
  all_goals try (exfalso;omega)
  refine ⟨(i+1,G++[.arr 4 0 [kd.av]]),⟨rfl,?_⟩,by simp only;omega,by simp only;omega⟩
  simp only
  rw [hP];rfl
 ·obtain rfl:i=x.ks.length:=by omega
  rw [List.take_length]
  repeat' (first|refine ZE ?_|refine ZD ?_|refine ZF rfl ?_|refine ZB rfl ?_|refine ZC ?_|(refine Zh rfl rfl (fun _=>?_) (fun _=>?_)<;>try (exfalso;omega))|refine ZG rfl ?_|refine ZQ ?_|refine Zs ?_|refine ZL ?_|refine Zd ?_|refine Zc rfl ?_|refine Zo ?_)
  all_goals try (exfalso;omega)
  refine Zg (st:=st') hst'.symm (.inr rfl) rfl rfl rfl rfl ?_;rfl
theorem ZYb {τ:List Nat->List Nat->St} {lm mx:Nat} {g:FuncId} {caps:List AV} (hV:Visit τ lm mx g caps) {la b:Nat} {h:Nat} (s:List Nat) (hs:h∈s) {more:List (Bool × List Blk)} {st:St} (hst:st.ps=(τ s s).ps++more) :
 S Tb JW [.ptr la (b+5) 0 0 0,.int .u64 h,.map lm mx,.func (.func g) [] caps] st=some (.int .i64 0,st):=by
 refine ZBD rfl (fun A hA=>?_)
 have hA2:A=(τ s s).ps++more:=hA.trans hst;have hA0:=hA;clear hA;subst hA2
 have hlk:=fun L=>ZF7 (ZBz (hV.get s s) more false L) h
 simp only [decide_eq_true hs] at hlk
 repeat' (first|refine ZE ?_|refine ZD ?_|refine ZF rfl ?_|refine ZB rfl ?_|refine ZC ?_|refine ZV rfl ?_|refine XH rfl rfl (hlk _) ?_|refine ZQ ?_|refine ZL ?_|refine Za ?_)
 all_goals try contradiction
 refine Zg (st:=st) hA0 (.inr rfl) rfl rfl rfl rfl ?_;rfl
theorem ZmH {s t:St} (h:s.ps=t.ps):s=t:=by
 obtain ⟨A,r,L⟩:=s;obtain ⟨A',r',L'⟩:=t
 have:=List.append_inj' h rfl
 obtain ⟨rfl,h2⟩:=this;simp only [List.cons.injEq,jP,and_true] at h2;obtain ⟨rfl,rfl⟩:=h2;rfl
theorem Ziy {τ:List Nat->List Nat->St} {lm mx:Nat} {g:FuncId} {caps:List AV} (hV:Visit τ lm mx g caps) {N:ZP} (hN:GoodN N) {la b:Nat} (hR:∀ u w,Rd (τ u w) la (b+5) N):∀ (n h:Nat) (x:Nd) (s:List Nat),lk N h=some x->x.h=n->s.length+4 ^ (n+1)<=900000000->∀ {more:List (Bool × List Blk)} {st st':St},st.ps=(τ s s).ps++more->st'.ps=(τ (bel N n h s) (bel N n h s)).ps++more ->
 S Tb JW [.ptr la (b+5) 0 0 0,.int .u64 h,.map lm mx,.func (.func g) [] caps] st=some (.int .i64 0,st'):=by
 intro n
 induction n with
 | zero =>
  intro h x s hx hh hb more st st' hst hst'
  by_cases hm:h∈s
  ·rw [bel,if_pos hm,<- hst] at hst'
   rw [ZmH hst'];exact ZYb hV s hm hst
  ·rw [bel,if_neg hm] at hst'
   have hks:x.ks=[]:=by
    rcases (hN h x hx).1 with q|⟨m,ks,q⟩
    ·exact q.ks
    ·have e:=q.eq;subst e;simp at hh
   refine ZYa hV hR hx (by rw [hks];decide) s hm (fun _ s=>s) (Nat.le_refl _) (fun i=>?_) (fun k hk=>by rw [hks] at hk;simp at hk) hst (by rw [hks];exact hst')
   rw [hks,List.take_nil,List.foldl_nil,lL,List.length_singleton]
   simp at hb;omega
 | succ n ih =>
  intro h x s hx hh hb more st st' hst hst'
  by_cases hm:h∈s
  ·rw [bel,if_pos hm,<- hst] at hst'
   rw [ZmH hst'];exact ZYb hV s hm hst
  ·rw [bel,if_neg hm,JD hx] at hst'
   have hk4:=(hN h x hx).1.len;have hkids:=(hN h x hx).2
   have hp:4 ^ (n+1+1)=4*4 ^ (n+1):=by rw [Nat.pow_succ];omega
   have h1:4<=4 ^ (n+1):=by rw [Nat.pow_succ];have:0<4 ^ n:=Nat.pow_pos (by decide);omega
   refine ZYa hV hR hx hk4 s hm (fun k s=>bel N n k.at_ s) (B:=900000000-4 ^ (n+1)) (by omega) (fun i=>?_) (fun k hk s' more' L hl=>?_) hst hst'
   ·have:=ZgP (Zob hN n) (x.ks.take i) (s++[h]) (fun k hk=>by obtain ⟨_,y,y1,y2,_⟩:=hkids k (List.mem_of_mem_take hk);exact ⟨y,y1,by omega⟩)
    rw [lL,List.length_singleton] at this
    have hti:(x.ks.take i).length<=4:=by rw [List.length_take];omega
    have h4:(x.ks.take i).length*4 ^ (n+1)<=4*4 ^ (n+1):=Nat.mul_le_mul_right _ hti
    generalize (x.ks.take i).length*4 ^ (n+1)=P2 at *
    generalize 4 ^ (n+1)=P at *
    omega
   ·obtain ⟨_,y,y1,y2,_⟩:=hkids k hk
    exact ih k.at_ y s' y1 (by omega) (by omega) (more:=more'++[(false,L)]) (List.append_assoc ..) (List.append_assoc ..)
end Go.Q15
