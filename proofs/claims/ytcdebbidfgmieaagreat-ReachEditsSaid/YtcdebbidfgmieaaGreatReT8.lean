/- A part of the proof. No condition. -/
import Derived.Test.YtcdebbidfgmieaaGreatReT7
set_option linter.unusedVariables false
set_option linter.unusedSimpArgs false
set_option maxHeartbeats 8000000
set_option maxRecDepth 100000
namespace Go.Q15
open Go Go.QAbs
variable {r':AR}{a cv:AV}{ro:Bool}{e:Env}{f:FuncId}{it:It}{c:ItC}{A:List (Bool × List Blk)}{args caps cls cs:LV}{l:List Nat}{s:B8}{i ip ix j la mx n ob ox rx ver wb:Nat}{x:Nd}{st:St}{t:Tr}
structure AInv(A:List (Bool × List Blk))(L:List Blk)(ip:Nat)(a td:AV)(cls:LV)(h:Nat)(l:List Tr)(i:Nat)(Li:List Blk)(td':AV)(rs:List Nat)(its:List It)(cs:LV)(R:List (Nat × Ro))(F:List (Nat × Blk)):Prop where
 le:i<=l.length
 pen:Pen A Li ip a td' (cls++cs)
 frm:Frm L (Ya ip td) Li (Ya ip td')
 fx:Fx Li (Ya ip td') F
 rts:Rx Li (Ya ip td') R
 flo:∀p∈F,L.length+4<=p.1
 rlo:∀p∈R,L.length+4<=p.1
 plo:∀j,Ya ip td' j->Ya ip td j\/L.length+4<=j
 nd:(R.map Prod.fst).Nodup
 cl:ClsOk A.length ip F cs its
 tr:AddL (l.take i) rs its R
 len:L.length+4<=Li.length
 b0:Li[L.length]?=some (.arr 7 0 [(Tr.mk 0 (h+1) .zero [] (some l)).av])
 b1:Li[L.length+1]?=some (.arr 5 0 [Ro.av ⟨0,h+1,Zy ((l.take i).map Tr.mea)⟩])
 b2:Li[L.length+2]?=some (.arr 1 i (Au A.length rs))
 b3:Li[L.length+3]?=some (.arr 1 0 [.ref A.length (L.length+2) i 0 i])
 fw:No5 F
theorem Zp7(n:Nat)(st:St)(r:Nat):mapSt (ZI Zs (n+1)) st [.ptr n r 0 0 0]=some ([.ptr n r 0 0 0],st):=by
 simp only[mapSt,ZI,Zs,if_pos (Nat.lt_succ_self n),oS,Y3]
theorem Zvk(h:weak a=a)(t:Tr):ZG (ZS ([]++[a,t.av]++[]))=some [a,t.av]:=by
 simp only[lE,lN,lC,ZS,ZH,ZG,h]
theorem ZtF{L:List Blk}{X:Nat->Prop}{R:List (Nat × Ro)}(h:Rx L X R):∀k∈R.map Prod.fst,k<L.length:=by
 intro k hk;obtain⟨p,hp,rfl⟩:=List.mem_map.1 hk;exact (List.getElem?_eq_some_iff.1 (h.get hp).1).1
theorem AInv.step{L:List Blk}{td:AV}(hP:Pen A L ip a td cls){h:Nat}{l:List Tr}{Li:List Blk}{td1:AV}{rs:List Nat}{its:List It}{R:List (Nat × Ro)}{F:List (Nat × Blk)}
 (hi:AInv A L ip a td cls h l i Li td1 rs its cs R F) {u:Tr} (hu:l[i]?=some u) {B:Blk} {L1:List Blk} {td2:AV} {rx:Nat} {its2:List It} {cs2:LV} {R2:List (Nat × Ro)} {F2:List (Nat × Blk)} (ha:Added A (Li++[B]) ip a td1 (cls++cs) u L1 td2 rx its2 cs2 R2 F2)
 {T:List Blk} {L2:List Blk} (hl2:L2.length=(L1++T).length) (hold:∀j,j<L1.length->j≠L.length+1->j≠L.length+2->j≠L.length+3->L2[j]?=L1[j]?)
 (b1:L2[L.length+1]?=some (.arr 5 0 [Ro.av ⟨0,h+1,Zy ((l.take (i+1)).map Tr.mea)⟩])) (b2:L2[L.length+2]?=some (.arr 1 (i+1) (Au A.length (rs++[rx])))) (b3:L2[L.length+3]?=some (.arr 1 0 [.ref A.length (L.length+2) (i+1) 0 (i+1)])) :
 AInv A L ip a td cls h l (i+1) L2 td2 (rs++[rx]) (its++its2) (cs++cs2) (R++R2) (F++F2):=by
 have hlt:=(List.getElem?_eq_some_iff.1 hu).1;have hlen:=hi.len;have hl1:=ha.frm.len;rw[lL,List.length_singleton]at hl1;rw[lL]at hl2;have hX1:∀j,Ya ip td1 j->j<Li.length:=fun j hj=>hi.pen.lt hj
 have plo2:∀j,Ya ip td2 j->Ya ip td j\/L.length+4<=j:=fun j hj=>by
  rcases ha.frm.own j hj with q|q
  ·exact hi.plo j q
  ·rw[lL,List.length_singleton]at q;exact .inr (by omega)
 have hltL:∀j,Ya ip td j->j<L.length:=fun j hj=>hP.lt hj
 have hfrm:Frm L1 (Ya ip td2) L2 (Ya ip td2)->Frm L1 (Ya ip td2) L2 (Ya ip td2):=id;have keep:∀ {j:Nat} {b:Blk},L1[j]?=some b->j≠L.length+1->j≠L.length+2->j≠L.length+3->L2[j]?=some b:=fun {j b} hb n1 n2 n3=>by
  rw[hold j (List.getElem?_eq_some_iff.1 hb).1 n1 n2 n3];exact hb
 have f1:=(Frm.app (L:=Li) (X:=Ya ip td1) [B]).trans ha.frm;have k1:Fx L1 (Ya ip td2) F:=hi.fx.frm f1;have k2:Rx L1 (Ya ip td2) R:=hi.rts.frm f1;have lo2:∀p∈R2,Li.length+1<=p.1:=fun p hp=>by have:=ha.rlo p hp;rwa [lL,List.length_singleton]at this
 have flo2:∀p∈F2,Li.length+1<=p.1:=fun p hp=>by have:=ha.flo p hp;rwa [lL,List.length_singleton]at this
 refine⟨hlt,?_,?_,?_,?_,?_,?_,plo2,?_,?_,?_,by omega,?_,b1,b2,b3,hi.fw.append ha.fw⟩
 ·rw[<- List.append_assoc]
  refine ha.pen.frm fun j hj=>hold j (ha.pen.lt hj) ?_ ?_ ?_<;>intro q<;>rcases plo2 j hj with w|w<;>first|omega|(have:=hltL j w;omega)
 ·refine⟨by have:=hi.frm.len;omega,fun j hj hn=>?_,fun j hj=>?_⟩
  ·have hn1:¬ Ya ip td1 j:=fun q=>by rcases hi.plo j q with w|w;exact hn w;omega
   rw[hold j (by omega) (by omega) (by omega) (by omega),f1.old j (by omega) hn1,hi.frm.old j hj hn]
  ·rcases plo2 j hj with q|q
   ·exact .inl q
   ·exact .inr (by omega)
 ·refine Fx.append (fun p hp=>?_) (fun p hp=>?_)
  ·have:=hi.flo p hp
   exact⟨keep (k1 p hp).1 (by omega) (by omega) (by omega),(k1 p hp).2⟩
  ·have:=flo2 p hp
   exact⟨keep (ha.fx p hp).1 (by omega) (by omega) (by omega),(ha.fx p hp).2⟩
 ·refine Rx.append (fun p hp=>?_) (fun p hp=>?_)
  ·obtain⟨q,hq,rfl⟩:=List.mem_map.1 hp
   have:=hi.rlo q hq;exact⟨keep (k2.get hq).1 (by simp only;omega) (by simp only;omega) (by simp only;omega),(k2.get hq).2⟩
  ·obtain⟨q,hq,rfl⟩:=List.mem_map.1 hp
   have:=lo2 q hq;exact⟨keep (ha.rts.get hq).1 (by simp only;omega) (by simp only;omega) (by simp only;omega),(ha.rts.get hq).2⟩
 ·intro p hp
  rcases List.mem_append.1 hp with q|q
  ·exact hi.flo p q
  ·have:=flo2 p q;omega
 ·intro p hp
  rcases List.mem_append.1 hp with q|q
  ·exact hi.rlo p q
  ·have:=lo2 p q;omega
 ·rw[List.map_append,List.nodup_append]
  refine⟨hi.nd,?_,?_⟩
  ·exact ha.nd
  ·intro x hx y hy e
   subst e;have h1:=ZtF hi.rts x hx;obtain⟨p,hp,rfl⟩:=List.mem_map.1 hy;have:=lo2 p hp;omega
 ·exact (hi.cl.mono (fun p hp=>by simp[hp])).append (ha.cl.mono (fun p hp=>by simp[hp]))
 ·rw[ZF hu]
  exact hi.tr.snoc ha.tr
 ·have hb0:=hi.b0
  rw[<- f1.old _ (by omega) (fun q=>by rcases hi.plo _ q with w|w;have:=hltL _ w;omega;omega)]at hb0;exact keep hb0 (by omega) (by omega) (by omega)
theorem AddT.root{its:List It}{R:List (Nat × Ro)}(h:AddT t rx its R):∃r:Ro,(rx,r)∈R/\r.m=t.mea/\r.h=t.h:=by
 cases h with
 | @kept o h m k _ h0=>exact⟨⟨o,h,m⟩,by simp,(IQ h0).symm,rfl⟩
 | @leaf s k _=>exact⟨⟨0,0,YZ s⟩,by simp,(IP _ _).symm,rfl⟩
 | @inner h l _ rs its R hl hn hx=>exact⟨⟨0,h+1,Zy (l.map Tr.mea)⟩,by simp,(IN _ _).symm,rfl⟩
theorem Zub {l:List Tr} {A:List (Bool × List Blk)} (ih:∀u∈l,∀ {L:List Blk} {ip:Nat} {a td:AV} {cls:LV},Pen A L ip a td cls->cls.length+u.cnt<1000000 ->
 ∃L' td' rx its cs R F,S Tb Qf [.ptr A.length ip 0 0 0,u.av] ⟨A,false,L⟩=some (.ptr A.length rx 0 0 0,⟨A,false,L'⟩)/\Added A L ip a td cls u L' td' rx its cs R F)
 (hl4:1<=l.length/\l.length<=4) (hfit:∀u∈l,u.mea.Fit 65536) {h:Nat} (hh:h<=16) {L:List Blk} {ip:Nat} {a td:AV} {cls:LV} (hP:Pen A L ip a td cls) (hc:cls.length+(Tr.mk 0 (h+1) .zero [] (some l)).cnt<1000000) :
 ∃L' td' rx its cs R F,S Tb Qf [.ptr A.length ip 0 0 0,(Tr.mk 0 (h+1) .zero [] (some l)).av] ⟨A,false,L⟩=some (.ptr A.length rx 0 0 0,⟨A,false,L'⟩)/\Added A L ip a td cls (.mk 0 (h+1) .zero [] (some l)) L' td' rx its cs R F:=by
 have hav:(Tr.mk 0 (h+1) .zero [] (some l)).av=.agg [.int .u64 (0:Nat),.int .i64 ((h+1:Nat):Int),.int .i64 0,.int .i64 0,.int .i64 0,.str [],.lit (l.map Tr.av)]:=by
  rw[Tr.av,Tr.avO_sl];rfl
 have hcn:(Tr.mk 0 (h+1) .zero [] (some l)).cnt=1+Tr.cntL l:=by rw[Tr.cnt,Tr.cntO];simp
 rw[hcn]at hc;have hltL:∀j,Ya ip td j->j<L.length:=fun j hj=>hP.lt hj
 have hmain:Sp Tb Qf [.ptr A.length ip 0 0 0,(Tr.mk 0 (h+1) .zero [] (some l)).av] ⟨A,false,L⟩ fun v st'=>∃L' td' rx its cs R F,v=.ptr A.length rx 0 0 0/\st'=⟨A,false,L'⟩/\Added A L ip a td cls (.mk 0 (h+1) .zero [] (some l)) L' td' rx its cs R F:=by
  refine Se Y ?_;have e0:(⟨A,false,L⟩:St)=⟨A,false,L++[]⟩:=by rw[lN]
  rw[e0,hav];repeat'(first|refine XM Y Y Y Y Y ?_|refine As Y Y Y Y ?_|refine ZlK Y ?_|refine ruS Y ?_|refine isS Y ?_|refine ZO ?_|refine Z5 Y ?_|refine cm0 Y Y Y ?_ ?_|(intro _;try omega)|(refine BI Y Y (fun _=>?_) (fun _=>?_)<;>try contradiction)|refine Zf Y Y Y ?_)
  refine Ze (α:=Nat × List Blk) (fun p=>[(0,.ptr A.length ip 0 0 0),(3,.ptr A.length L.length 0 0 0),(5,.ptr A.length (L.length+1) 0 0 0),(7,.ptr A.length (L.length+3) 0 0 0),(20,.lit (l.map Tr.av)),(21,.int .i64 l.length),(22,.int .i64 p.1)])
   (fun p=>⟨A,false,p.2⟩) (fun p=>∃td' rs its cs R F,AInv A L ip a td cls h l p.1 p.2 td' rs its cs R F) (fun p=>l.length-p.1) (0,_) ?_ rfl ?_ ?_
  ·simp
  ·refine⟨td,[],[],[],[],[],Nat.zero_le _,?_,.app _,fun p hp=>by simp at hp,fun p hp=>by simp at hp,fun p hp=>by simp at hp,fun p hp=>by simp at hp,fun j hj=>.inl hj,by simp,.nil,.nil,by simp,?_,?_,?_,?_,.nil⟩
   ·rw[lN];exact hP.app _
   ·exact (QI (i:=0)).trans (by rw[hav];rfl)
   ·exact QI (i:=1)
   ·exact QI (i:=2)
   ·exact QI (i:=3)
  rintro⟨i,Li⟩ ⟨td1,rs,its,cs,R,F,hi⟩;simp only at hi ⊢;have hle:=hi.le;have hrs:rs.length=i:=by rw[hi.tr.len,List.length_take];omega
  have hplen:i=(Au A.length rs).length:=by simp[Au,hrs]
  have hll:=hi.len;rcases Nat.lt_or_ge i l.length with hlt|hge
  ·obtain⟨u,hu⟩:∃u,l[i]?=some u:=⟨l[i]'hlt,by simp[hlt]⟩
   have hum:=jM hu;have ht1:0<=((i:Nat):Int)/\l[((i:Nat):Int).toNat]?=some u:=⟨by omega,by rw[show ((i:Nat):Int).toNat=i by omega];exact hu⟩
   have hc1:(cls++cs).length+u.cnt<1000000:=by
    have h1:=hi.cl.len;have h2:=hi.tr.cnt;have h3:Tr.cntL l=Tr.cntL (l.take i)+(u.cnt+Tr.cntL (l.drop (i+1))):=by
     conv=>lhs;rw[<- List.take_append_drop (i+1) l,ZF hu,Tr.cntL_append,Tr.cntL_append]
     simp[Tr.cntL];omega
    rw[lL];omega
   obtain⟨L1,td2,rx,its2,cs2,R2,F2,hS,ha⟩:=ih u hum (hi.pen.app [Blk.arr 7 0 [u.av]]) hc1;obtain⟨r,hr,hrm,hrh⟩:=ha.tr.root;have hrx:=ha.rlo _ hr;have hrg:=(ha.rts.get hr).1;simp only at hrx hrg;rw[lL,List.length_singleton]at hrx;have f1:=(Frm.app (L:=Li) (X:=Ya ip td1) [Blk.arr 7 0 [u.av]]).trans ha.frm;have hnx:∀j,j<4->¬ Ya ip td1 (L.length+j):=fun j hj q=>by
    rcases hi.plo _ q with w|w
    ·have:=hltL _ w;omega
    ·omega
   have g1:=hi.b1;have g2:=hi.b2;have g3:=hi.b3;rw[<- f1.old _ (by omega) (hnx 1 (by omega))]at g1;rw[<- f1.old _ (by omega) (hnx 2 (by omega))]at g2;rw[<- f1.old _ (by omega) (hnx 3 (by omega))]at g3;have hl1:=ha.frm.len;rw[lL,List.length_singleton]at hl1;have gA2:∀T,(L1++T)[L.length+2]?=some (.arr 1 i (Au A.length rs)):=fun T=>CE g2
   have gA3:∀T b,((L1++T).set (L.length+2) b)[L.length+3]?=some (.arr 1 0 [.ref A.length (L.length+2) i 0 i]):=fun T b=>by
    rw[jS (by omega)];exact CE g3
   have gA1:∀T b c,(((L1++T).set (L.length+2) b).set (L.length+3) c)[L.length+1]?=some (.arr 5 0 [.agg [.int .u64 (0:Nat),.int .i64 ((h+1:Nat):Int),.int .i64 (Zy ((l.take i).map Tr.mea)).b,.int .i64 (Zy ((l.take i).map Tr.mea)).r,.int .i64 (Zy ((l.take i).map Tr.mea)).l]]):=fun T b c=>by
    rw[jS (by omega),jS (by omega)];exact CE g1
   have gAr:∀T b c,(((L1++T).set (L.length+2) b).set (L.length+3) c)[rx]?=some (.arr 5 0 [r.av]):=fun T b c=>by
    rw[jS (by omega),jS (by omega)];exact CE hrg
   have hsf:=Fo (l:=(l.take i).map Tr.mea) (fun m hm=>by obtain⟨w,hw,rfl⟩:=List.mem_map.1 hm;exact hfit w (List.mem_of_mem_take hw));have hsl:(((l.take i).map Tr.mea).length:Int)*65536<=262144:=by simp;omega
   have huf:=hfit u hum;rw[<- hrm]at huf;obtain⟨s1,s2,s3,s4,s5,s6⟩:=hsf;obtain⟨m1,m2,m3,m4,m5,m6⟩:=huf;have hbb:0<=(Zy ((l.take i).map Tr.mea)).b/\(Zy ((l.take i).map Tr.mea)).b<=262144/\0<=(Zy ((l.take i).map Tr.mea)).r/\(Zy ((l.take i).map Tr.mea)).r<=262144/\0<=(Zy ((l.take i).map Tr.mea)).l/\(Zy ((l.take i).map Tr.mea)).l<=262144:=⟨s1,by omega,s3,by omega,s5,by omega⟩
   have hpl:(Au A.length rs).length+[AV.ptr A.length rx 0 0 0].length<4294967296:=by simp;omega
   repeat'(first|refine QY Y Y ht1 Zn ?_|refine ZtE (gA1 _ _ _) (gAr _ _ _) (by omega) hbb ⟨m1,m2,m3,m4,m5,m6⟩ ?_|refine ruS Y ?_|refine isS Y ?_|refine rkS Y ?_|refine cm0 Y Y Y ?_ ?_|(intro _;try omega)|refine ZV Y Y (by omega) ?_|refine Zi Y Y Y ?_|refine Zx Y (Zb _) ?_|refine QU Y Y (Zb _) ?_|refine Jr Y Y Y (Z9 _ _ _) (Qg _ _) Y ?_|refine zA0 Y Y (hS) ?_|refine ZE Y g3 Y Y ?_|refine UU Y Y ?_|refine UN (ys:=[.ptr A.length rx 0 0 0]) Y Y (Ek _ _ []) (gA2 _) hplen Y (Zp7 _ _ _) hpl (by decide) ?_|refine Qn (gA3 _ _) Y Y Y (Q2 _ (Nat.lt_succ_self _)) Y ?_)
   have hT3:(((L1++[Blk.arr 1 0 [.ptr A.length rx 0 0 0]]).set (L.length+2) (.arr 1 (i+1) (Au A.length rs++[.ptr A.length rx 0 0 0]))).set (L.length+3) (.arr 1 0 ([AV.ref A.length (L.length+2) i 0 i].set 0 (.ref A.length (L.length+2) (i+1) 0 (i+[AV.ptr A.length rx 0 0 0].length))))).length=(L1++[Blk.arr 1 0 [.ptr A.length rx 0 0 0]]).length:=by simp
   refine⟨(i+1,_),⟨rfl,rfl⟩,⟨td2,rs++[rx],its++its2,cs++cs2,R++R2,F++F2,hi.step hP hu ha (T:=[Blk.arr 1 0 [.ptr A.length rx 0 0 0]]) (by simp) ?_ ?_ ?_ ?_⟩,by simp only;omega⟩
   ·intro j hj n1 n2 n3
    rw[jS (by omega),jS (by omega),jS (by omega),jL hj]
   ·rw[List.getElem?_set_self (by rw[hT3,lL];omega),ZF hu,List.map_append,TL]
    rw[jC,List.map_nil,Zy,Zy,Mea.add_zero,<- hrm];rfl
   ·rw[jS (by omega),jS (by omega),List.getElem?_set_self (by rw[lL];omega)]
    simp[Au]
   ·rw[jS (by omega),List.getElem?_set_self (by rw[List.length_set,lL];omega)]
    rfl
  ·obtain rfl:i=l.length:=by omega
   have htr:=hi.tr;have g1:=hi.b1;rw[List.take_length]at htr g1;have g0:=hi.b0;have g2:Li[L.length+2]?=some (.arr 1 rs.length (Au A.length rs)):=by rw[hrs];exact hi.b2
   have g3:Li[L.length+3]?=some (.arr 1 0 [.ref A.length (L.length+2) rs.length 0 rs.length]):=by rw[hrs];exact hi.b3
   have hcl:(cls++cs).length<1000000:=by
    have h1:=hi.cl.len;have h2:=htr.cnt;rw[lL];omega
   have hnx:∀j,j<4->¬ Ya ip td1 (L.length+j):=fun j hj q=>by
    rcases hi.plo _ q with w|w
    ·have:=hltL _ w;omega
    ·omega
   obtain⟨L1,td2,hS,hp,hf,hx⟩:=Ub hi.pen (rx:=L.length+1) (Cv.two (n:=A.length) L.length (L.length+3)) hcl;have hnx2:∀j,j<4->¬ Ya ip td2 (L.length+j):=fun j hj q=>by
    rcases hf.own _ q with w|w
    ·exact hnx j hj w
    ·omega
   rw[<- hf.old L.length (by omega) (hnx 0 (by omega))]at g0;rw[<- hf.old _ (by omega) (hnx 1 (by omega))]at g1;rw[<- hf.old _ (by omega) (hnx 2 (by omega))]at g2;rw[<- hf.old _ (by omega) (hnx 3 (by omega))]at g3;have hkl:∀k∈R.map Prod.fst,L.length+4<=k:=fun k hk=>by
    obtain⟨p,hp,rfl⟩:=List.mem_map.1 hk;exact hi.rlo p hp
   repeat'(first|refine ruS Y ?_|refine isS Y ?_|refine rkS Y ?_|refine cm0 Y Y Y ?_ ?_|(intro _;try omega)|refine X3 Y Y ?_|refine ZA Y Y Y (hS) ?_)
   all_goals try omega
   refine⟨_,_,Jq (.inr Y) Y Y Y Y,L1,td2,L.length+1,its++[⟨L.length+1,.inn (h+1) rs⟩],cs++[clV A.length Li.length (Li.length+2) (Li.length+1)],R++[(L.length+1,⟨0,h+1,Zy (l.map Tr.mea)⟩)],
    (F++[(L.length,Blk.arr 7 0 [(Tr.mk 0 (h+1) .zero [] (some l)).av]),(L.length+3,Blk.arr 1 0 [.ref A.length (L.length+2) rs.length 0 rs.length]),(L.length+2,Blk.arr 1 rs.length (Au A.length rs))]) ++
     [(Li.length,Blk.arr 1 0 [.ptr A.length ip 0 0 0]),(Li.length+1,Blk.arr 1 0 [.ptr A.length (L.length+1) 0 0 0]),(Li.length+2,Blk.arr 1 0 [.func (.func JJ) [] [.ptr A.length L.length 0 0 0,.ptr A.length (L.length+3) 0 0 0]])],rfl,rfl,
    ⟨by rw[<- List.append_assoc];exact hp,hi.frm.trans hf,?_,?_,?_,?_,?_,.inner htr hi.nd (fun q=>by have:=hkl _ q;omega),?_,(hi.fw.append (.cons (by decide) (.cons (by decide) (.cons (by decide) .nil)))).append (.cons (by decide) (.cons (by decide) (.cons (by decide) .nil)))⟩⟩
   ·refine Fx.append (Fx.append (hi.fx.frm hf) (fun p hp=>?_)) hx
    simp only[List.mem_cons,List.not_mem_nil,or_false]at hp;rcases hp with rfl|rfl|rfl
    ·exact⟨g0,hnx2 0 (by omega)⟩
    ·exact⟨g3,hnx2 3 (by omega)⟩
    ·exact⟨g2,hnx2 2 (by omega)⟩
   ·exact Rx.append (hi.rts.frm hf) (Rx.one g1 (hnx2 1 (by omega)))
   ·intro p hp
    simp only[List.mem_append,List.mem_cons,List.not_mem_nil,or_false]at hp;rcases hp with (q|rfl|rfl|rfl)|rfl|rfl|rfl
    ·have:=hi.flo p q;omega
    all_goals simp only
    all_goals omega
   ·intro p hp
    simp only[List.mem_append,List.mem_singleton]at hp;rcases hp with q|rfl
    ·have:=hi.rlo p q;omega
    ·simp only;omega
   ·refine (hi.cl.mono (fun p hp=>by simp[hp])).append (.cons ⟨Li.length,Li.length+2,Li.length+1,.func (.func JJ) [] [.ptr A.length L.length 0 0 0,.ptr A.length (L.length+3) 0 0 0],rfl,by simp,by simp,by simp,⟨L.length,L.length+3,L.length+2,Tr.mk 0 (h+1) .zero [] (some l),rfl,rfl,by simp,by simp,by simp⟩⟩ .nil)
   ·rw[List.map_append,List.nodup_append]
    refine⟨hi.nd,by simp,?_⟩;intro x hx y hy e;simp only[jC,List.map_nil,List.mem_singleton]at hy;have:=hkl x hx;omega
 obtain⟨v,st',h1,L',td',rx,its,cs,R,F,rfl,rfl,h2⟩:=hmain;exact⟨L',td',rx,its,cs,R,F,h1,h2⟩
theorem Zvl{N:ZC}(hv:Val N t):t.bytes<=65536->∀ {L:List Blk} {ip:Nat} {a td:AV} {cls:LV},Pen A L ip a td cls->cls.length+t.cnt<1000000 ->
 ∃L' td' rx its cs R F,S Tb Qf [.ptr A.length ip 0 0 0,t.av] ⟨A,false,L⟩=some (.ptr A.length rx 0 0 0,⟨A,false,L'⟩)/\Added A L ip a td cls t L' td' rx its cs R F:=by
 induction hv with
 | @kept o h m k x h0 hx hok hh hm hk=>intro _ L ip a td cls hP hc;exact Zp5 hP h0 hk
 | @leaf s k h1 h2 hk=>intro _ L ip a td cls hP hc;exact Zp6 hP (by omega) ⟨h1,h2⟩ hk
 | @inner h l hh h2 h4 hl hb hv ih =>
  intro hb2 L ip a td cls hP hc;have hbs:∀u∈l,u.bytes<=65536:=fun u hu=>by
   obtain⟨i,hi,rfl⟩:=List.getElem_of_mem hu;have h3:Tr.bytesL l=Tr.bytesL (l.take i)+(l[i].bytes+Tr.bytesL (l.drop (i+1))):=by
    conv=>lhs;rw[<- List.take_append_drop (i+1) l,ZF (jE hi),Tr.bytesL_append,Tr.bytesL_append]
    simp[Tr.bytesL];omega
   have n1:=Tr.bytesL_nonneg (l:=l.take i) (fun t ht=>by have:=(hv t (List.mem_of_mem_take ht)).pos.2;omega);have n2:=Tr.bytesL_nonneg (l:=l.drop (i+1)) (fun t ht=>by have:=(hv t (List.mem_of_mem_drop ht)).pos.2;omega);rw[Tr.bytes,Tr.bytesO]at hb2;simp[Mea.zero]at hb2;omega
  exact Zub (fun u hu=>ih u hu (hbs u hu)) ⟨by omega,h4⟩ (fun u hu=>(hv u hu).mea_fit (hbs u hu)) (by omega) hP hc
theorem ZtG{xb:Nat}(h:st.get n xb=some (.arr 3 0 [.agg [.int .i64 0,.str s,.nils]])):S Tb Jn [.ptr n xb 0 0 0] st=some (Nd.av ⟨0,s,none⟩,st):=by
 refine Zv Y (fun A hA=>?_);have g:=fun L=>ZD hA (ro:=false) (L:=L) h
 repeat'(first|refine ruS Y ?_|refine Jg Y ?_|refine rkS Y ?_|refine ZX Y Y Y ?_|refine Zg Y Y Y Y Y Y ?_|refine Zk Y (g _) Y Y ?_)
 refine Xu hA (by simp) Y Y Y Y Y ?_;rfl
theorem Ud(n b:Nat)(st:St):∀l:List Kid,mapSt (ZI (n+2) b) st (l.map Kid.av)=some (l.map Kid.av,st)
 | []=>rfl
 | k::l=>by
  rw[jC,mapSt];show ((some (k.av,st)).bind fun r=>(mapSt (ZI (n+2) b) r.2 (l.map Kid.av)).bind (Y3 r.1))=_
  rw[oS,Ud n b st l];rfl
theorem Zp8{b lv q:Nat}{h:Int}(st:St)(hl:lv<b):ZI Zs b st (.agg [.int .i64 h,.str s,.ref lv ix ver q n])=some (.agg [.int .i64 h,.str s,.ref lv ix ver q n],st):=by
 show (mapSt (keepN (ZI 5 b)) _ _).bind Ae=_
 simp only[mapSt,keepN,Al,jB,if_false,ZI,oS,if_pos hl,Y3,Ae]
theorem Zuc{L:List Blk}{l:List Kid}{h:Int}(hg:L[ix]?=some (.arr 4 ver (l.map Kid.av)))(hn:n=l.length):
 ZI Zs A.length ⟨A,false,L⟩ (.agg [.int .i64 h,.str s,.ref A.length ix ver 0 n])=some (.agg [.int .i64 h,.str s,.lit (l.map Kid.av)],⟨A,false,L.set ix .dead⟩):=by
 subst hn;have h1:=HX (n:=4) (A:=A) (s:=0) (m:=l.length) hg (by simp) (es':=l.map Kid.av) (by rw[List.drop_zero,List.take_of_length_le (by simp)];exact Ud 2 0 _ l);show (mapSt (keepN (ZI 5 A.length)) _ _).bind Ae=_
 simp only[mapSt,keepN,Al,jB,if_false,ZI,oS]at h1 ⊢;rw[h1];simp only[oS,Y3,Ae]
def kgV(lv kx:Nat):Nat->AV
 | 0=>.nils
 | i+1=>.ref lv kx i 0 (i+1)
def kgB(ks:List Kid):Nat->List Blk
 | 0=>[]
 | i+1=>[.arr 4 i ((ks.take (i+1)).map Kid.av)]
def Ro.kid(r:Ro):Kid:=⟨r.at_,r.m⟩
theorem ZtH{tb kb kx:Nat}{rs:List Nat}{ρ:Nat->Ro}(h1:st.get n tb=some (.arr 7 0 [t.av]))(h2:st.get n kb=some (.arr 1 0 [.ref n kx rs.length 0 rs.length]))(h3:st.get n kx=some (.arr 1 rs.length (Au n rs)))(h4:∀r∈rs,st.get n r=some (.arr 5 0 [(ρ r).av]))
 (hl:1<=rs.length/\rs.length<=4):S Tb JJ [.ptr n tb 0 0 0,.ptr n kb 0 0 0] st=some (Nd.av ⟨t.h,[],some (rs.map fun r=>(ρ r).kid)⟩,st):=by
 refine Zv Y (fun A hA=>?_);have g1:=fun L=>ZD hA (ro:=false) (L:=L) h1
 have g2:=fun L=>ZD hA (ro:=false) (L:=L) h2
 have g3:=fun L=>ZD hA (ro:=false) (L:=L) h3
 obtain⟨ks,hks⟩:∃ks,ks=rs.map fun r=>(ρ r).kid:=⟨_,rfl⟩
 rw[<- hks];have hkl:ks.length=rs.length:=by rw[hks,List.length_map]
 have hwi:∀L,wIs 1 rs.length (St.get ⟨A,false,L⟩ n kx)=true:=fun L=>by rw[g3];simp[wIs]
 repeat'(first|refine ruS Y ?_|refine isS Y ?_|refine ZO ?_|refine Z6 Y ?_|refine Zf Y Y Y ?_|refine ZX Y Y Y ?_|refine Zg Y Y Y Y Y Y ?_|refine Zk Y (g1 _) Y (Xe _) ?_|refine Zk Y (g2 _) Y Y ?_)
 refine Ze (α:=Nat) (fun i=>[(2,.ptr A.length 0 0 0 0),(3,.ptr A.length 1 0 0 0),(9,.ref n kx rs.length 0 rs.length),(10,.int .i64 rs.length),(11,.int .i64 i)])
  (fun i=>⟨A,false,[.arr 3 0 [.agg [.int .i64 0,.str [],.nils]],.arr 3 0 [.agg [.int .i64 t.h,.str [],kgV A.length 2 i]]]++kgB ks i⟩) (fun i=>i<=rs.length) (fun i=>rs.length-i) 0 rfl rfl (Nat.zero_le _) ?_
 intro i hi;replace hi:i<=rs.length:=hi;rcases Nat.lt_or_ge i rs.length with hlt|hge
 ·obtain⟨r,hr⟩:∃r,rs[i]?=some r:=⟨rs[i]'hlt,by simp[hlt]⟩
  have g4:=fun L=>ZD hA (ro:=false) (L:=L) (h4 r (jM hr))
  have hp:(Au n rs)[0+((i:Nat):Int).toNat]?=some (.ptr n r 0 0 0):=by
   rw[show 0+((i:Nat):Int).toNat=i by omega,Au,jG,hr];rfl
  have hki:ks[i]?=some (ρ r).kid:=by rw[hks,jG,hr];rfl
  have htk:=ZF hki;unfold Ro.av at g4;cases i with
  | zero =>
   simp only[kgV,kgB];repeat'(first|refine ruS Y ?_|refine isS Y ?_|refine ZE Y Y Y Y ?_|refine rkS Y ?_|refine cm0 Y Y Y ?_ ?_|(intro _;try omega)|refine ZV Y Y (by omega) ?_|refine Zf Y Y Y ?_|refine Zg Y Y Y (Q2 _ (Nat.lt_succ_self _)) Y Y ?_|refine JH Y Y (by omega) (hwi _) ?_|refine Zk Y (g3 _) hp Y ?_|refine Zk Y (g4 _) Y Y ?_|refine UV Y Y Y ?_|refine IJ Y Y Y (by simp) (by decide) Y ?_)
   refine⟨0+1,⟨rfl,?_⟩,by omega,by omega⟩;simp only[kgB,htk];rfl
  | succ i =>
   simp only[kgV,kgB];have hl2:∀x:AV,((ks.take (i+1)).map Kid.av).length+[x].length<4294967296:=fun x=>by simp;omega
   have hn2:i+1=((ks.take (i+1)).map Kid.av).length:=by simp;omega
   repeat'(first|refine BL Y Y Y hn2 Y Y (hl2 _) (by decide) ?_|refine ruS Y ?_|refine isS Y ?_|refine ZE Y Y Y Y ?_|refine rkS Y ?_|refine cm0 Y Y Y ?_ ?_|(intro _;try omega)|refine ZV Y Y (by omega) ?_|refine Zf Y Y Y ?_|refine Zg Y Y Y (Q2 _ (Nat.lt_succ_self _)) Y Y ?_|refine JH Y Y (by omega) (hwi _) ?_|refine Zk Y (g3 _) hp Y ?_|refine Zk Y (g4 _) Y Y ?_|refine UV Y Y Y ?_)
   refine⟨i+1+1,⟨rfl,?_⟩,by omega,by omega⟩;simp only[kgB,htk,List.map_append];rfl
 ·obtain rfl:i=rs.length:=by omega
  obtain⟨m,hm⟩:∃m,rs.length=m+1:=⟨rs.length-1,by omega⟩
  have htk:ks.take (m+1)=ks:=List.take_of_length_le (by omega);rw[hm];simp only[kgV,kgB,htk];repeat'(first|refine ruS Y ?_|refine ZE Y Y Y Y ?_|refine Jg Y ?_|refine rkS Y ?_|refine cm0 Y Y Y ?_ ?_|(intro _;try omega)|refine Zg Y Y Y (Zp8 _ (Nat.lt_succ_self _)) Y Y ?_)
  all_goals try omega
  refine Xu hA (.inr Y) Y Y Y (Zuc (l:=ks) Y (by omega)) Y ?_;rfl
def Qx(ρ:Nat->Ro):ItC->Nd
 | .leaf s=>⟨0,s,none⟩
 | .inn h ks=>⟨h,[],some (ks.map fun k=>(ρ k).kid)⟩
def DX:ItC->List Nat
 | .leaf _=>[]
 | .inn _ ks=>ks
theorem ZtI(x:Nd):weak x.av=x.av:=by
 obtain⟨h,s,k⟩:=x;cases k<;>rfl
theorem wkPN(h:weak a=a)(x:Nd):ZG (ZS ([]++[a,x.av]++[]))=some [a,x.av]:=by
 simp only[lE,lN,lC,ZS,ZtI,ZG,h]
theorem Zno{ρ:Nat->Ro}(h:NdOk (Qx ρ c)):((Qx ρ c).h=0->(Qx ρ c).kids=none)/\∀hh ks,c=.inn hh ks->1<=ks.length/\ks.length<=4:=by
 cases c with
 | leaf s=>exact⟨fun _=>rfl,fun hh ks q=>by simp at q⟩
 | inn hh ks =>
  rcases h with q|⟨n,l,q⟩
  ·have:=q.lo;simp[Qx]at this
  ·have e:=q.eq
   have h1:=q.lo;have h2:=q.hi;simp only[Qx,Nd.mk.injEq,oJ]at e;obtain⟨e1,_,e3⟩:=e;refine⟨fun w=>by simp[Qx]at w;omega,fun hh' ks' q2=>?_⟩;simp only[ItC.inn.injEq]at q2;obtain⟨rfl,rfl⟩:=q2;rw[<- e3,List.length_map]at h1 h2;omega
theorem Znp{F:List (Nat × Blk)}{ρ:Nat->Ro}(hcv:CvOk n F cv c)(hF:∀p∈F,st.get n p.1=some p.2)(hR:∀r∈DX c,st.get n r=some (.arr 5 0 [(ρ r).av]))(hl:∀h ks,c=.inn h ks->1<=ks.length/\ks.length<=4):
 S Tb (match cv with|.func (.func g) _ _=>g|_=>0) (match cv with|.func _ _ cap=>cap|_=>[]) st=some ((Qx ρ c).av,st):=by
 cases c with
 | leaf s =>
  obtain⟨xb,rfl,h2⟩:=hcv;exact ZtG (hF _ h2)
 | inn h ks =>
  obtain⟨tb,kb,kx,t,rfl,h2,h3,h4,h5⟩:=hcv;subst h2;exact ZtH (hF _ h3) (hF _ h4) (hF _ h5) hR (hl _ _ Y)
theorem CvOk.form{F:List (Nat × Blk)}(h:CvOk n F cv c):Cv n cv:=by
 cases c with
 | leaf s=>obtain⟨xb,rfl,_⟩:=h;exact .one _
 | inn h ks=>obtain⟨tb,kb,kx,t,rfl,_⟩:=h;exact .two _ _
def Ro.wr(r:Ro)(h:Nat):Ro:=⟨h,r.h,r.m⟩
theorem ZtJ{b b0 b1 b2:Nat}{td rp:AV}{r:AR}{F:List (Nat × Blk)}{ρ:Nat->Ro}(hb0:st.get n b0=some (.arr 1 0 [.ptr n ip 0 0 0]))(hb1:st.get n b1=some (.arr 1 0 [cv]))(hb2:st.get n b2=some (.arr 1 0 [.ptr n it.rx 0 0 0]))
 (hip:st.get n ip=some (.arr 3 0 [.agg [.ptr la (b+5) 0 0 0,td,rp]])) (hcv:CvOk n F cv it.c) (hF:∀p∈F,st.get n p.1=some p.2) (hR:∀k∈DX it.c,st.get n k=some (.arr 5 0 [(ρ k).av])) (hrx:st.get n it.rx=some (.arr 5 0 [(ρ it.rx).av]))
 (hA:Has st la b r) (ho:AROk r) (hn:0<r.n) (hx:NdOk (Qx ρ it.c)) (hL:∀k∈(Qx ρ it.c).ks,∃y,lk r.nodes k.at_=some y/\NdOk y/\y.h+1=(Qx ρ it.c).h/\y.mea=k.m) (hw:st.wr n)
 (hs:∀i,i=it.rx\/i=b2->¬ (n=la/\b<=i/\i<=b+5)) :
 S Tb Xp [.ptr n b0 0 0 0,.ptr n b1 0 0 0,.ptr n b2 0 0 0] st=some (.tup [.int .u64 r.next,.int .i64 0],(QG st la b (r.add (Qx ρ it.c))).upd n it.rx (.arr 5 0 [((ρ it.rx).wr r.next).av])):=by
 obtain⟨hk0,hk4⟩:=Zno hx;refine AS Y (fun A hA'=>?_);have g0:=fun L=>ZD hA' (ro:=false) (L:=L) hb0
 have g1:=fun L=>ZD hA' (ro:=false) (L:=L) hb1
 have g2:=fun L=>ZD hA' (ro:=false) (L:=L) hb2
 have g3:=fun L=>ZD hA' (ro:=false) (L:=L) hip
 have hC:=fun L=>Znp (st:=St.allRo ⟨A,false,L⟩) (ρ:=ρ) hcv (fun p hp=>by rw[Jl];exact ZD hA' (hF p hp)) (fun k hk=>by rw[Jl];exact ZD hA' (hR k hk)) hk4
 have hAl:=fun L=>Zp1 (hA.push hA' (ro:=false) (L:=L)) ho hn hx hk0 hL
 have hle:=hA.le;have hP:=hA.put (r.add (Qx ρ it.c));have hw1:(QG st la b (r.add (Qx ρ it.c))).wr n:=Fk hA.cl.wr hw;have hg2:(QG st la b (r.add (Qx ρ it.c))).get n b2=some (.arr 1 0 [.ptr n it.rx 0 0 0]):=by rw[hA.out _ (hs _ (.inr rfl))];exact hb2
 have hgr:(QG st la b (r.add (Qx ρ it.c))).get n it.rx=some (.arr 5 0 [(ρ it.rx).av]):=by rw[hA.out _ (hs _ (.inl rfl))];exact hrx
 cases hcv.form;all_goals simp only at hC
 all_goals repeat'(first|refine ZA Y Y (wkPN Y _) (hAl _) ?_|refine ruS Y ?_|refine isS Y ?_|refine ZO ?_|refine cm0 Y Y Y ?_ ?_|(intro _;try omega)|refine Zk Y (g0 _) Y Y ?_|refine Zk Y (g1 _) Y Y ?_|refine Zk Y (g3 _) Y Y ?_|refine XV Y Y Y (hC _) ?_)
 all_goals rw[Cm hA' hle]
 all_goals obtain⟨A1,hA1⟩:∃A1,A1=(QG st la b (r.add (Qx ρ it.c))).ps:=⟨_,rfl⟩
 all_goals rw[<- hA1]
 all_goals generalize QG st la b (r.add (Qx ρ it.c))=st1 at *
 all_goals have q2:=fun L=>ZD hA1 (ro:=false) (L:=L) hg2
 all_goals repeat'(first|refine isS Y ?_|refine Zk Y (q2 _) Y Y ?_)
 all_goals refine Cb hA1 Y Y hw1 hgr Y Y Y (fun A2 hA2=>?_)
 all_goals repeat'(first|refine ruS Y ?_|refine isS Y ?_|refine rkS Y ?_)
 all_goals refine ZQ hA2 (.inr Y) Y Y Y Y ?_
 all_goals rfl
theorem Zud{b b0 b1 b2 tx:Nat}{rp cv cl:AV}{r:AR}{F:List (Nat × Blk)}{ρ:Nat->Ro}(htd:st.get n tx=some (.arr 1 ver cls))(hj:cls[j]?=some cl)(hcl:ClOk n ip F cl it)(hlen:cls.length<1000000)
 (hip:st.get n ip=some (.arr 3 0 [.agg [.ptr la (b+5) 0 0 0,.ref n tx ver j (cls.length-j),rp]])) (hF:∀p∈F,st.get n p.1=some p.2) (hR:∀k∈DX it.c,st.get n k=some (.arr 5 0 [(ρ k).av])) (hrx:st.get n it.rx=some (.arr 5 0 [(ρ it.rx).av]))
 (hA:Has st la b r) (ho:AROk r) (hn:0<r.n) (hx:NdOk (Qx ρ it.c)) (hL:∀k∈(Qx ρ it.c).ks,∃y,lk r.nodes k.at_=some y/\NdOk y/\y.h+1=(Qx ρ it.c).h/\y.mea=k.m) (hw:st.wr n)
 (hs:∀i,i=it.rx\/i=ip\/i=tx\/(∃p∈F,i=p.1)->¬ (n=la/\b<=i/\i<=b+5)) (hne:it.rx≠ip/\it.rx≠tx/\tx≠ip) :
 S Tb Hd [.ptr n ip 0 0 0] st=some (.tup [.int .u64 r.next,.bool (decide (cls.length=j+1)),.int .i64 0],
  ((QG st la b (r.add (Qx ρ it.c))).upd n it.rx (.arr 5 0 [((ρ it.rx).wr r.next).av])).upd n ip (.arr 3 0 [.agg [.ptr la (b+5) 0 0 0,.ref n tx ver (j+1) (cls.length-j-1),rp]])):=by
 obtain⟨b0,b1,b2,cv,rfl,h0,h1,h2,hcv⟩:=hcl;have hjl:=(List.getElem?_eq_some_iff.1 hj).1;refine AS Y (fun A hA'=>?_);have g3:=fun L=>ZD hA' (ro:=false) (L:=L) hip
 have gt:=fun L=>ZD hA' (ro:=false) (L:=L) htd
 have hwi:∀L,wIs 1 ver (St.get ⟨A,false,L⟩ n tx)=true:=fun L=>by rw[gt];simp[wIs]
 have hle:=hA.le;have hnl:n<=st.A.length:=St.get_le hip;have hP:=hA.put (r.add (Qx ρ it.c));have hw1:(QG st la b (r.add (Qx ρ it.c))).wr n:=Fk hA.cl.wr hw;have hp1:=hs ip (.inr (.inl rfl));have hp2:=hs tx (.inr (.inr (.inl rfl)));have hp3:=hs it.rx (.inl rfl);have k1:(QG st la b (r.add (Qx ρ it.c))).get n it.rx=_:=(hA.out _ hp3).trans hrx;have k2:(QG st la b (r.add (Qx ρ it.c))).get n ip=_:=(hA.out _ hp1).trans hip;have k3:(QG st la b (r.add (Qx ρ it.c))).get n tx=_:=(hA.out _ hp2).trans htd
 have hput:=fun L=>ZtJ (st:=⟨A,false,L⟩) (ρ:=ρ) (ZD hA' (hF _ h0)) (ZD hA' (hF _ h1)) (ZD hA' (hF _ h2)) (g3 L) hcv (fun p hp=>ZD hA' (hF p hp)) (fun k hk=>ZD hA' (hR k hk)) (ZD hA' hrx) (hA.push hA' (ro:=false) (L:=L)) ho hn hx hL (Yj hA' hnl hw)
  (fun i hi=>by
   rcases hi with rfl|rfl
   ·exact hp3
   ·exact hs _ (.inr (.inr (.inr ⟨_,h2,rfl⟩))))
 have e1:∀L,(QG ⟨A,false,L⟩ la b (r.add (Qx ρ it.c))).upd n it.rx (.arr 5 0 [((ρ it.rx).wr r.next).av])=⟨((QG st la b (r.add (Qx ρ it.c))).upd n it.rx (.arr 5 0 [((ρ it.rx).wr r.next).av])).ps,false,L⟩:=fun L=>by
  rw[Cm hA' hle];exact JE Y (by rw[CB];exact hnl)
 simp only[e1]at hput;clear e1;have m1:∀l' i',((QG st la b (r.add (Qx ρ it.c))).upd n it.rx (.arr 5 0 [((ρ it.rx).wr r.next).av])).get l' i'=if l'=n/\i'=it.rx then some (.arr 5 0 [((ρ it.rx).wr r.next).av]) else (QG st la b (r.add (Qx ρ it.c))).get l' i':=fun l' i'=>St.get_upd k1 rfl
 have n2:=(m1 n ip).trans ((if_neg (fun q=>hne.1 q.2.symm)).trans k2);have n3:=(m1 n tx).trans ((if_neg (fun q=>hne.2.1 q.2.symm)).trans k3);have hw2:((QG st la b (r.add (Qx ρ it.c))).upd n it.rx (.arr 5 0 [((ρ it.rx).wr r.next).av])).wr n:=St.wr_upd hw1 hw1;clear m1 k1 k2 k3;generalize (QG st la b (r.add (Qx ρ it.c))).upd n it.rx (.arr 5 0 [((ρ it.rx).wr r.next).av])=st1 at *;have hj2:cls[j+((0:Nat):Int).toNat]?=some (clV n b0 b1 b2):=by simpa using hj
 unfold clV at hj2;repeat'(first|refine ruS Y ?_|refine isS Y ?_|refine ZO ?_|refine Z6 Y ?_|refine cm0 Y Y Y ?_ ?_|(intro _;try omega)|refine Qc Y Y Y Y ?_|refine Zk Y (g3 _) Y Y ?_|refine JH Y Y (by omega) (hwi _) ?_|refine Zk Y (gt _) hj2 Y ?_)
 all_goals try omega
 refine ZA Y Y Y (hput _) ?_;obtain⟨A1,hA1⟩:∃A1,A1=st1.ps:=⟨_,rfl⟩;rw[<- hA1];have q2:=fun L=>ZD hA1 (ro:=false) (L:=L) n2
 have q3:=fun L=>ZD hA1 (ro:=false) (L:=L) n3
 have hwi1:∀L,wIs 1 ver (St.get ⟨A1,false,L⟩ n tx)=true:=fun L=>by rw[q3];simp[wIs]
 repeat'(first|refine ruS Y ?_|refine isS Y ?_|refine ZO ?_|refine cm0 Y Y Y ?_ ?_|(intro _;try omega)|refine Zk Y (q2 _) Y Y ?_|refine K1 Y Y (by omega) (hwi1 _) ?_)
 all_goals try contradiction
 refine Cb hA1 Y Y hw2 n2 Y (Q2 _ (Nat.lt_succ_self _)) Y (fun A2 hA2=>?_);have eB:Blk.arr 3 0 ([AV.agg [.ptr la (b+5) 0 0 0,.ref n tx ver j (cls.length-j),rp]].set 0 (.agg [.ptr la (b+5) 0 0 0,.ref n tx ver (j+(1:Int).toNat) (cls.length-j-(1:Int).toNat),rp]))=Blk.arr 3 0 [.agg [.ptr la (b+5) 0 0 0,.ref n tx ver (j+1) (cls.length-j-1),rp]]:=rfl;rw[eB]at hA2;have r2:(st1.upd n ip (Blk.arr 3 0 [.agg [.ptr la (b+5) 0 0 0,.ref n tx ver (j+1) (cls.length-j-1),rp]])).get n ip=_:=(St.get_upd n2 rfl).trans (if_pos ⟨rfl,rfl⟩);have p2:=fun L=>ZD hA2 (ro:=false) (L:=L) r2
 repeat'(first|refine ruS Y ?_|refine isS Y ?_|refine rkS Y ?_|refine Z6 Y ?_|refine cm0 Y Y Y ?_ ?_|(intro _;try omega)|refine Zk Y (p2 _) Y Y ?_)
 ·rename_i hz
  rw[decide_eq_true (show cls.length=j+1 by omega)];exact ZQ hA2 (.inr Y) Y Y Y Y Y
 ·rename_i hz
  rw[decide_eq_false (show ¬ cls.length=j+1 by omega)];exact ZQ hA2 (.inr Y) Y Y Y Y Y
def Ext(N M:ZC):Prop:=∀o x,lk N o=some x->lk M o=some x
theorem Ext.refl(N:ZC):Ext N N:=fun _ _ h=>h
theorem Ext.trans{N M K:ZC}(h:Ext N M)(g:Ext M K):Ext N K:=fun o x q=>g o x (h o x q)
theorem Val.ext{N M:ZC}(hs:Ext N M)(hv:Val N t):Val M t:=by
 induction hv with
 | kept h0 hx hok hh hm hk=>exact .kept h0 (hs _ _ hx) hok hh hm hk
 | leaf h1 h2 hk=>exact .leaf h1 h2 hk
 | inner hh h2 h4 hl hb hv ih=>exact .inner hh h2 h4 hl hb ih
theorem IR{N M:ZC}(hN:GoodN N)(hs:Ext N M):∀n o x,lk N o=some x->x.h=n->QK M n o=QK N n o:=by
 intro n;induction n with
 | zero=>intro o x hx hh;rw[QK,QK,hx,hs _ _ hx]
 | succ n ih =>
  intro o x hx hh;rw[QK,QK,hx,hs _ _ hx];simp only[Option.map_some,Option.getD_some];have hk:=(hN o x hx).2;have key:∀l:List Kid,(∀k∈l,k∈x.ks)->(l.flatMap fun k=>QK M n k.at_)=l.flatMap fun k=>QK N n k.at_:=by
   intro l;induction l with
   | nil=>intro _;rfl
   | cons k l ih2 =>
    intro h;obtain⟨_,y,y1,y2,_⟩:=hk k (h k (by simp));rw[List.flatMap_cons,List.flatMap_cons,ih k.at_ y y1 (by omega),ih2 (fun q hq=>h q (by simp[hq]))]
  exact key _ fun _ h=>h
theorem IS{r:AR}(ho:AROk r)(hn:0<r.n)(x:Nd):Ext r.nodes (r.add x).nodes:=fun o y h=>by
 rw[CC ho hn,if_neg]
 ·exact h
 ·intro q;rw[q,ho.new hn]at h;simp at h
def El(N:ZC)(x:Nd):Prop:=∀k∈x.ks,∃y,lk N k.at_=some y/\NdOk y/\y.h+1=x.h/\y.mea=k.m
theorem Zp9{r:AR}(ho:AROk r)(hn:0<r.n)(hg:GoodN r.nodes)(hx:NdOk x)(hk:El r.nodes x)(h0:∀k∈x.ks,k.at_≠0):GoodN (r.add x).nodes:=by
 intro o y h;have hE:=IS ho hn x;rw[CC ho hn]at h;split at h
 ·simp only[oJ]at h
  subst h;refine⟨hx.copy,fun k hkk=>?_⟩;have hkk':k∈x.ks:=hkk;obtain⟨z,z1,z2,z3,z4⟩:=hk k hkk';exact⟨h0 k hkk',z,hE _ _ z1,z3,z4⟩
 ·obtain⟨h1,h2⟩:=hg o y h
  refine⟨h1,fun k hkk=>?_⟩;obtain⟨g0,z,z1,z2,z3⟩:=h2 k hkk;exact⟨g0,z,hE _ _ z1,z2,z3⟩
theorem AROk.hnd{r:AR}(h:AROk r){o:Nat}(hx:lk r.nodes o=some x):J8 o/\o≠0:=by
 obtain⟨s,g,h1,h2,h3,h4⟩:=h.key o x hx;obtain⟨g',g1,g2,g3⟩:=h.gen s h2;rw[h4]at g1;simp only[oJ]at g1;have:=h.n16;have:=h.most;unfold J8;omega
def Av(ρ:Nat->Ro)(k h:Nat):Nat->Ro:=fun i=>if i=k then (ρ i).wr h else ρ i
inductive RunOk:List It->AR->(Nat->Ro)->AR->(Nat->Ro)->List Nat->Prop
 | nil {r ρ}:RunOk [] r ρ r ρ []
 | cons {it its r ρ r' ρ' hs} (hn:0<r.n) (hx:NdOk (Qx ρ it.c)) (hk:El r.nodes (Qx ρ it.c)) (h:RunOk its (r.add (Qx ρ it.c)) (Av ρ it.rx r.next) r' ρ' hs):RunOk (it::its) r ρ r' ρ' (r.next::hs)
theorem RunOk.append{i1 i2:List It}{r r1 r2:AR}{ρ ρ1 ρ2:Nat->Ro}{h1 h2:List Nat}(h:RunOk i1 r ρ r1 ρ1 h1)(g:RunOk i2 r1 ρ1 r2 ρ2 h2):RunOk (i1++i2) r ρ r2 ρ2 (h1++h2):=by
 induction h with
 | nil=>exact g
 | cons hn hx hk h ih=>exact .cons hn hx hk (ih g)
namespace Tr
mutual
def wr:Tr->AR->AR × Ro × List Nat
 | .mk o h m s k,r =>
  if o≠0 then (r,⟨o,h,m⟩,[])
  else if h=0 then (r.add ⟨0,s,none⟩,⟨r.next,0,YZ s⟩,[r.next])
  else ((wrO k r).1.add ⟨h,[],some (wrO k r).2.1⟩,⟨(wrO k r).1.next,h,Zy ((wrO k r).2.1.map Kid.m)⟩,(wrO k r).2.2++[(wrO k r).1.next])
def wrO:Option (List Tr)->AR->AR × List Kid × List Nat
 | none,r=>(r,[],[])
 | some l,r=>wrL l r
def wrL:List Tr->AR->AR × List Kid × List Nat
 | [],r=>(r,[],[])
 | t::l,r=>((wrL l (t.wr r).1).1,(t.wr r).2.1.kid::(wrL l (t.wr r).1).2.1,(t.wr r).2.2++(wrL l (t.wr r).1).2.2)
end
end Tr
structure WrB(r:AR)(c:Nat)(r':AR)(hs:List Nat):Prop where
 ok:AROk r'
 good:GoodN r'.nodes
 ext:Ext r.nodes r'.nodes
 n:r'.n+c=r.n
 len:hs.length=c
 new:∀h∈hs,lk r.nodes h=none
 all:∀h x,lk r'.nodes h=some x->lk r.nodes h=some x\/h∈hs
 has:∀h∈hs,∃x,lk r'.nodes h=some x
 nodup:hs.Nodup
 frees:r'.frees=r.frees
 stale:r'.stale=r.stale
 slots:r'.slots=r.slots
 allocs:r'.allocs=r.allocs+c
 nl:r'.nodes.length=r.nodes.length+c
theorem WrB.refl{r:AR}(ho:AROk r)(hg:GoodN r.nodes):WrB r 0 r [] :=
 ⟨ho,hg,.refl _,by simp,rfl,fun h q=>by simp at q,fun h x q=>.inl q,fun h q=>by simp at q,by simp,rfl,rfl,rfl,by simp,by simp⟩
theorem WrB.trans{r r1 r2:AR}{c d:Nat}{h1 h2:List Nat}(h:WrB r c r1 h1)(g:WrB r1 d r2 h2):WrB r (c+d) r2 (h1++h2):=by
 refine⟨g.ok,g.good,h.ext.trans g.ext,by have:=h.n;have:=g.n;omega,by rw[lL,h.len,g.len],fun o ho=>?_,fun o x ho=>?_,fun o ho=>?_,?_,g.frees.trans h.frees,g.stale.trans h.stale,g.slots.trans h.slots,by rw[g.allocs,h.allocs];omega,by rw[g.nl,h.nl];omega⟩
 ·rcases List.mem_append.1 ho with q|q
  ·exact h.new o q
  ·cases hk:lk r.nodes o with
   | none=>rfl
   | some x=>have:=g.new o q;rw[h.ext _ _ hk]at this;simp at this
 ·rcases g.all o x ho with q|q
  ·rcases h.all o x q with w|w
   ·exact .inl w
   ·exact .inr (by simp[w])
  ·exact .inr (by simp[q])
 ·rcases List.mem_append.1 ho with q|q
  ·obtain⟨x,hx⟩:=h.has o q
   exact⟨x,g.ext _ _ hx⟩
  ·exact g.has o q
 ·rw[List.nodup_append]
  refine⟨h.nodup,g.nodup,fun x hx y hy e=>?_⟩;subst e;obtain⟨z,hz⟩:=h.has x hx;rw[g.new x hy]at hz;simp at hz
theorem WrB.one{r:AR}(ho:AROk r)(hn:0<r.n)(hg:GoodN r.nodes){x:Nd}(hx:NdOk x)(hk:El r.nodes x)(h0:∀k∈x.ks,k.at_≠0):WrB r 1 (r.add x) [r.next]:=by
 refine⟨ho.add hn x,Zp9 ho hn hg hx hk h0,IS ho hn x,?_,rfl,fun o q=>?_,fun o y q=>?_,fun o q=>?_,by simp,rfl,rfl,rfl,rfl,by simp[AR.add,AR.alloc]⟩
 ·show r.n-1+1=r.n;omega
 ·simp only[List.mem_singleton]at q;subst q;exact ho.new hn
 ·rw[CC ho hn]at q
  split at q
  ·rename_i e;exact .inr (by simp[e])
  ·exact .inl q
 ·simp only[List.mem_singleton]at q
  exact⟨x.copy,by rw[CC ho hn,if_pos q]⟩
structure WrOk(N:ZC)(t:Tr)(r':AR)(ro:Ro):Prop where
 rm:ro.m=t.mea
 rh:ro.h=t.h
 live:∃y,lk r'.nodes ro.at_=some y/\NdOk y/\y.h=t.h/\y.mea=t.mea
 txt:QK r'.nodes t.h ro.at_=t.txt N
def Exec(N:ZC)(t:Tr):Prop:=∀(r:AR),AROk r->GoodN r.nodes->Ext N r.nodes->t.cnt<=r.n->∀(rx:Nat) (its:List It) (R:List (Nat × Ro)) (ρ:Nat->Ro),AddT t rx its R->(∀p∈R,ρ p.1=p.2)->(R.map Prod.fst).Nodup ->
 ∃ρ',RunOk its r ρ (t.wr r).1 ρ' (t.wr r).2.2/\ρ' rx=(t.wr r).2.1/\(∀k,k∉R.map Prod.fst->ρ' k=ρ k)/\WrB r t.cnt (t.wr r).1 (t.wr r).2.2/\WrOk N t (t.wr r).1 (t.wr r).2.1
structure WrLs(N:ZC)(l:List Tr)(h:Nat)(r':AR)(ks:List Kid):Prop where
 len:ks.length=l.length
 m:ks.map Kid.m=l.map Tr.mea
 ok:∀k∈ks,KidOk h k/\k.at_≠0/\∃y,lk r'.nodes k.at_=some y/\NdOk y/\y.h=h/\y.mea=k.m
 txt:(ks.flatMap fun k=>QK r'.nodes h k.at_)=Tr.txtL N l
theorem Zvm{N:ZC}(hN:GoodN N){h:Nat}:∀(l:List Tr),(∀u∈l,Val N u/\u.h=h/\Big u)->(∀u∈l,Exec N u)->∀(r:AR),AROk r->GoodN r.nodes->Ext N r.nodes->Tr.cntL l<=r.n->∀(rs:List Nat) (its:List It) (R:List (Nat × Ro)) (ρ:Nat->Ro),AddL l rs its R->(∀p∈R,ρ p.1=p.2)->(R.map Prod.fst).Nodup ->
 ∃ρ',RunOk its r ρ (Tr.wrL l r).1 ρ' (Tr.wrL l r).2.2/\(rs.map fun k=>(ρ' k).kid)=(Tr.wrL l r).2.1/\(∀k,k∉R.map Prod.fst->ρ' k=ρ k)/\WrB r (Tr.cntL l) (Tr.wrL l r).1 (Tr.wrL l r).2.2/\WrLs N l h (Tr.wrL l r).1 (Tr.wrL l r).2.1:=by
 intro l;induction l with
 | nil =>
  intro _ _ r ho hg hE hc rs its R ρ ha hR hnd;cases ha;exact⟨ρ,.nil,rfl,fun _ _=>rfl,.refl ho hg,⟨rfl,rfl,fun k hk=>by simp[Tr.wrL]at hk,rfl⟩⟩
 | cons t l ih =>
  intro hv hx r ho hg hE hc rs its R ρ ha hR hnd;cases ha with
  | @cons _ _ rx rs i1 i2 R1 R2 ht hl =>
   rw[Tr.cntL]at hc;rw[List.map_append,List.nodup_append]at hnd;obtain⟨nd1,nd2,nd3⟩:=hnd;obtain⟨ρ1,a1,a2,a3,a4,a5⟩:=hx t (by simp) r ho hg hE (by omega) rx i1 R1 ρ ht (fun p hp=>hR p (by simp[hp])) nd1;have hn1:=a4.n;have hd:∀p∈R2,p.1∉R1.map Prod.fst:=fun p hp q=>nd3 _ q _ (List.mem_map.2 ⟨p,hp,rfl⟩) rfl
   obtain⟨ρ2,b1,b2,b3,b4,b5⟩:=ih (fun u hu=>hv u (by simp[hu])) (fun u hu=>hx u (by simp[hu])) _ a4.ok a4.good (hE.trans a4.ext) (by omega) rs i2 R2 ρ1 hl (fun p hp=>by rw[a3 _ (hd p hp)];exact hR p (by simp[hp])) nd2;obtain⟨rr,hrr,_,_⟩:=ht.root;have hrx:rx∉R2.map Prod.fst:=fun q=>nd3 rx (List.mem_map.2 ⟨_,hrr,rfl⟩) rx q rfl
   obtain⟨v1,v2,v3⟩:=hv t (by simp);refine⟨ρ2,a1.append b1,?_,?_,?_,?_⟩
   ·rw[jC,b3 rx hrx,a2,b2];rfl
   ·intro k hk
    rw[List.map_append,List.mem_append,not_or]at hk;rw[b3 k hk.2,a3 k hk.1]
   ·rw[Tr.cntL];exact a4.trans b4
   ·obtain⟨y,y1,y2,y3,y4⟩:=a5.live
    have hh:=a4.ok.hnd y1;have hkm:((t.wr r).2.1.kid).m=t.mea:=a5.rm;have hka:((t.wr r).2.1.kid).at_=(t.wr r).2.1.at_:=rfl;refine⟨by show _+1=_;rw[b5.len];rfl,?_,?_,?_⟩
    ·show ((t.wr r).2.1.kid).m::_=_
     rw[hkm,b5.m];rfl
    ·intro k hk
     rcases List.mem_cons.1 hk with rfl|q
     ·refine⟨?_,hh.2,y,b4.ext _ _ y1,y2,by rw[y3,v2],by rw[y4];exact hkm.symm⟩
      have hs:=v1.size hN v3;have hb:=v1.mea_ok.1;have:=y2.kid (a:=(t.wr r).2.1.at_) (by rw[y3,y4,hb];exact hs) hh.1;rw[y3,v2,y4,<- a5.rm]at this;exact this
     ·exact b5.ok k q
    ·show QK (Tr.wrL l (t.wr r).1).1.nodes h (t.wr r).2.1.at_++((Tr.wrL l (t.wr r).1).2.1.flatMap fun k=>QK (Tr.wrL l (t.wr r).1).1.nodes h k.at_)=_
     rw[b5.txt,Tr.txtL,<- a5.txt,v2]
     congr 1
     exact IR a4.good b4.ext h _ y y1 (by rw[y3,v2])
theorem exec_ok{N:ZC}(hN:GoodN N)(hv:Val N t):t.bytes<=65536->Exec N t:=by
 induction hv with
 | @kept o h m k x h0 hx hok hh hm hk =>
  intro _ r ho hg hE hc rx its R ρ ha hR hnd;have e:(Tr.mk o h m [] k).wr r=(r,⟨o,h,m⟩,[]):=by rw[Tr.wr,if_pos h0]
  have ec:(Tr.mk o h m [] k).cnt=0:=by rw[Tr.cnt,Tr.cntO_getD,hk,if_neg h0];rfl
  rw[e,ec];cases ha with
  | kept _ =>
   refine⟨ρ,.nil,hR (rx,⟨o,h,m⟩) (by simp),fun _ _=>rfl,.refl ho hg,⟨(IQ h0).symm,rfl,⟨x,hE _ _ hx,hok,hh,by rw[IQ h0];exact hm⟩,?_⟩⟩;show QK r.nodes h o=_
   rw[IR hN hE h o x hx hh,Tr.txt,if_neg h0,Tr.txtO_getD,hk];simp[Tr.txtL]
  | leaf=>exact absurd Y h0
  | inner=>exact absurd Y h0
 | @leaf s k h1 h2 hk =>
  intro _ r ho hg hE hc rx its R ρ ha hR hnd;have e:(Tr.mk 0 0 .zero s k).wr r=(r.add ⟨0,s,none⟩,⟨r.next,0,YZ s⟩,[r.next]):=by rw[Tr.wr];simp
  have ec:(Tr.mk 0 0 .zero s k).cnt=1:=by rw[Tr.cnt,Tr.cntO_getD,hk];rfl
  rw[ec]at hc;rw[e,ec];have hx:NdOk ⟨0,s,none⟩:=.inl ⟨rfl,h1,h2,rfl⟩;cases ha with
  | kept h0=>exact absurd Y h0
  | leaf =>
   have hρ:ρ rx=⟨0,0,YZ s⟩:=hR (rx,⟨0,0,YZ s⟩) (by simp);refine⟨Av ρ rx r.next,.cons (by omega) hx (fun k hk=>by simp[Qx,Nd.ks]at hk) .nil,?_,fun k hk=>?_,.one ho (by omega) hg hx (fun k hk=>by simp[Nd.ks]at hk) (fun k hk=>by simp[Nd.ks]at hk),⟨(IP s k).symm,rfl,⟨(⟨0,s,none⟩:Nd).copy,?_,hx.copy,rfl,?_⟩,?_⟩⟩
   ·simp only[Av,if_true,hρ];rfl
   ·simp only[jC,List.map_nil,List.mem_singleton]at hk
    simp only[Av,if_neg hk]
   ·rw[CC ho (by omega),if_pos rfl]
   ·rw[IP];rfl
   ·show QK _ 0 r.next=_
    rw[QK,CC ho (by omega),if_pos rfl,Tr.txt,if_pos rfl,Tr.txtO_getD,hk];simp[Tr.txtL,Nd.copy]
 | @inner h l hh h2 h4 hl hb hv ih =>
  intro hb2 r ho hg hE hc rx its R ρ ha hR hnd;have eb:(Tr.mk 0 (h+1) .zero [] (some l)).bytes=Tr.bytesL l:=by rw[Tr.bytes,Tr.bytesO];simp[Mea.zero]
  have hbs:∀u∈l,u.bytes<=65536:=fun u hu=>by
   obtain⟨i,hi,rfl⟩:=List.getElem_of_mem hu;have h3:Tr.bytesL l=Tr.bytesL (l.take i)+(l[i].bytes+Tr.bytesL (l.drop (i+1))):=by
    conv=>lhs;rw[<- List.take_append_drop (i+1) l,ZF (jE hi),Tr.bytesL_append,Tr.bytesL_append]
    simp[Tr.bytesL];omega
   have n1:=Tr.bytesL_nonneg (l:=l.take i) (fun t ht=>by have:=(hv t (List.mem_of_mem_take ht)).pos.2;omega);have n2:=Tr.bytesL_nonneg (l:=l.drop (i+1)) (fun t ht=>by have:=(hv t (List.mem_of_mem_drop ht)).pos.2;omega);omega
  have ec:(Tr.mk 0 (h+1) .zero [] (some l)).cnt=Tr.cntL l+1:=by rw[Tr.cnt,Tr.cntO];simp;omega
  rw[ec]at hc;have hbl:(Zy (l.map Tr.mea)).b=Tr.bytesL l:=OA l fun u hu=>(hv u hu).mea_ok.1
  have e:(Tr.mk 0 (h+1) .zero [] (some l)).wr r=((Tr.wrL l r).1.add ⟨h+1,[],some (Tr.wrL l r).2.1⟩,⟨(Tr.wrL l r).1.next,h+1,Zy ((Tr.wrL l r).2.1.map Kid.m)⟩,(Tr.wrL l r).2.2++[(Tr.wrL l r).1.next]):=by
   rw[Tr.wr];simp[Tr.wrO]
  rw[e,ec];cases ha with
  | kept h0=>exact absurd Y h0
  | @inner _ _ _ rs i1 R1 hal hn1 hx1 =>
   obtain⟨ρ1,a1,a2,a3,a4,a5⟩:=Zvm hN l (fun u hu=>⟨hv u hu,hl u hu,fun q=>hb u hu (by rw[<- hl u hu];exact q)⟩) (fun u hu=>ih u hu (hbs u hu)) r ho hg hE (by omega) rs i1 R1 ρ hal (fun p hp=>hR p (by simp[hp])) hn1;have hρ:ρ1 rx=⟨0,h+1,Zy (l.map Tr.mea)⟩:=by rw[a3 rx hx1];exact hR (rx,⟨0,h+1,Zy (l.map Tr.mea)⟩) (by simp)
   have hn:0<(Tr.wrL l r).1.n:=by have:=a4.n;omega
   generalize hks:(Tr.wrL l r).2.1=ks at *;generalize (Tr.wrL l r).1=r1 at *;have hx:NdOk ⟨h+1,[],some ks⟩:=.inr ⟨h,ks,rfl,by omega,by have:=a5.len;omega,by have:=a5.len;omega,fun k hk=>(a5.ok k hk).1,by rw[a5.m,hbl];omega⟩;have hki:El r1.nodes ⟨h+1,[],some ks⟩:=fun k hk=>by
    obtain⟨_,_,y,y1,y2,y3,y4⟩:=a5.ok k hk;exact⟨y,y1,y2,by show y.h+1=h+1;omega,y4⟩
   have hnd2:Qx ρ1 (.inn (h+1) rs)=⟨h+1,[],some ks⟩:=by rw[Qx,a2]
   have hrun:RunOk [⟨rx,.inn (h+1) rs⟩] r1 ρ1 (r1.add ⟨h+1,[],some ks⟩) (Av ρ1 rx r1.next) [r1.next]:=by
    have:=RunOk.cons (it:=⟨rx,.inn (h+1) rs⟩) (ρ:=ρ1) hn (by rw[hnd2];exact hx) (by rw[hnd2];exact hki) .nil;rw[hnd2]at this;exact this
   refine⟨Av ρ1 rx r1.next,a1.append hrun,?_,fun k hk=>?_,a4.trans (.one a4.ok hn a4.good hx hki (fun k hk=>(a5.ok k hk).2.1)),⟨?_,rfl,⟨(⟨h+1,[],some ks⟩:Nd).copy,?_,hx.copy,rfl,?_⟩,?_⟩⟩
   ·simp only[Av,if_true,hρ,Ro.wr,a5.m]
   ·rw[List.map_append,List.mem_append,not_or]at hk
    have:k≠rx:=fun q=>hk.2 (by simp[q])
    simp only[Av,if_neg this];exact a3 k hk.1
   ·rw[IN]
    show Zy (ks.map Kid.m)=_
    rw[a5.m]
   ·rw[CC a4.ok hn,if_pos rfl]
   ·rw[IN,<- a5.m];rfl
   ·show QK _ (h+1) r1.next=_
    rw[QK,CC a4.ok hn,if_pos rfl,Tr.txt,if_pos rfl,Tr.txtO,<- a5.txt];show (ks.flatMap fun k=>QK (r1.add _).nodes h k.at_)=_
    have key:∀m:List Kid,(∀k∈m,k∈ks)->(m.flatMap fun k=>QK (r1.add ⟨h+1,[],some ks⟩).nodes h k.at_)=m.flatMap fun k=>QK r1.nodes h k.at_:=by
     intro m;induction m with
     | nil=>intro _;rfl
     | cons k m ih2 =>
      intro q;obtain⟨_,_,y,y1,y2,y3,y4⟩:=a5.ok k (q k (by simp));rw[List.flatMap_cons,List.flatMap_cons,IR a4.good (IS a4.ok hn _) h k.at_ y y1 y3,ih2 (fun w hw=>q w (by simp[hw]))]
    exact key ks fun _ h=>h
theorem ClsOk.get{F:List (Nat × Blk)}{is:List It}(h:ClsOk n ip F cs is):∀ {j:Nat} {it:It},is[j]?=some it->∃c,cs[j]?=some c/\ClOk n ip F c it:=by
 induction h with
 | nil=>intro j it hj;simp at hj
 | cons hc ht ih =>
  intro j it hj;cases j with
  | zero =>
   simp only[List.getElem?_cons_zero,oJ]at hj;subst hj;exact⟨_,rfl,hc⟩
  | succ j=>exact ih hj
def TdOk(st:St)(n tx ver j:Nat)(cls:LV)(td:AV):Prop:=(cls=[]/\td=.nils)\/(cls≠[]/\td=.ref n tx ver j (cls.length-j)/\st.get n tx=some (.arr 1 ver cls))
structure PenS(st:St)(n ip tx ver la b:Nat)(cls:LV)(its:List It)(F:List (Nat × Blk))(keys:List Nat)(rx:Nat)(ρ:Nat->Ro)(j:Nat):Prop where
 wr:st.wr n
 pen:∃td,st.get n ip=some (.arr 3 0 [.agg [.ptr la (b+5) 0 0 0,td,.ptr n rx 0 0 0]])/\TdOk st n tx ver j cls td
 cl:ClsOk n ip F cls its
 fx:∀p∈F,st.get n p.1=some p.2
 rts:∀k∈keys,st.get n k=some (.arr 5 0 [(ρ k).av])
 key:∀it∈its,it.rx∈keys/\∀k∈DX it.c,k∈keys
 rk:rx∈keys
 s1:∀k∈keys,k≠ip/\k≠tx
 s2:tx≠ip
 s3:∀p∈F,p.1∉keys/\p.1≠ip/\p.1≠tx
 ar:∀i,i=ip\/(cls≠[]/\i=tx)\/i∈keys\/(∃p∈F,i=p.1)->¬ (n=la/\b<=i/\i<=b+5)
 len:cls.length<1000000
 jl:j<=cls.length
theorem Zue{tx b:Nat}{its:List It}{F:List (Nat × Blk)}{keys:List Nat}{ρ:Nat->Ro}(h:PenS st n ip tx ver la b cls its F keys rx ρ j)(hj:j=cls.length):S Tb LI [.ptr n ip 0 0 0] st=some (.tup [(ρ rx).av,.int .i64 0],st):=by
 obtain⟨td,h1,h2⟩:=h.pen;have h3:=h.rts rx h.rk;refine Zv Y (fun A hA=>?_);have g1:=fun L=>ZD hA (ro:=false) (L:=L) h1
 have g3:=fun L=>ZD hA (ro:=false) (L:=L) h3
 unfold Ro.av at g3 ⊢;rcases h2 with⟨_,rfl⟩|⟨_,rfl,_⟩;all_goals repeat'(first|refine ruS Y ?_|refine isS Y ?_|refine rkS Y ?_|refine Z6 Y ?_|refine J2 Y ?_|refine cm0 Y Y Y ?_ ?_|(intro _;try omega)|refine Qc Y Y Y Y ?_|refine ZX Y Y Y ?_|refine Zg Y Y Y Y Y Y ?_|refine Zk Y (g1 _) Y Y ?_|refine Zk Y (g3 _) Y Y ?_)
 all_goals try omega
 all_goals refine Xu hA (by simp) Y Y Y Y Y ?_
 all_goals rfl
def CF(st:St)(n ip tx ver la b:Nat)(len:Nat)(rx:Nat)(r':AR)(k:Nat)(ro:Ro)(j:Nat):St :=
 ((QG st la b r').upd n k (.arr 5 0 [ro.av])).upd n ip (.arr 3 0 [.agg [.ptr la (b+5) 0 0 0,.ref n tx ver (j+1) (len-j-1),.ptr n rx 0 0 0]])
theorem PenS.step{tx b:Nat}{its:List It}{F:List (Nat × Blk)}{keys:List Nat}{ρ:Nat->Ro}(h:PenS st n ip tx ver la b cls its F keys rx ρ j){r:AR}(hA:Has st la b r)(ho:AROk r)(hn:0<r.n)(hj:its[j]?=some it)
 (hx:NdOk (Qx ρ it.c)) (hk:El r.nodes (Qx ρ it.c)) :
 S Tb Hd [.ptr n ip 0 0 0] st=some (.tup [.int .u64 r.next,.bool (decide (cls.length=j+1)),.int .i64 0],CF st n ip tx ver la b cls.length rx (r.add (Qx ρ it.c)) it.rx ((ρ it.rx).wr r.next) j) /\
 PenS (CF st n ip tx ver la b cls.length rx (r.add (Qx ρ it.c)) it.rx ((ρ it.rx).wr r.next) j) n ip tx ver la b cls its F keys rx (Av ρ it.rx r.next) (j+1) /\
 Has (CF st n ip tx ver la b cls.length rx (r.add (Qx ρ it.c)) it.rx ((ρ it.rx).wr r.next) j) la b (r.add (Qx ρ it.c)):=by
 obtain⟨td,h1,h2⟩:=h.pen;obtain⟨cl,c1,c2⟩:=h.cl.get hj;have hjl:=(List.getElem?_eq_some_iff.1 c1).1;have hm:=jM hj;obtain⟨k1,k2⟩:=h.key it hm;have hrx:=h.rts it.rx k1;have hrp:=h.s1 it.rx k1;have hne:cls≠[]:=fun q=>by rw[q]at c1;simp at c1
 rcases h2 with⟨q,_⟩|⟨_,rfl,h3⟩
 ·exact absurd q hne
 have hS:=Zud (it:=it) (ρ:=ρ) (b0:=0) (b1:=0) (b2:=0) (cv:=.nils) h3 c1 c2 h.len h1 h.fx (fun k hk=>h.rts k (k2 k hk)) hrx hA ho hn hx hk h.wr (fun i hi=>h.ar i (by
  rcases hi with rfl|rfl|rfl|q
  ·exact .inr (.inr (.inl k1))
  ·exact .inl Y
  ·exact .inr (.inl ⟨hne,rfl⟩)
  ·exact .inr (.inr (.inr q)))) ⟨hrp.1,hrp.2,h.s2⟩
 have a1:∀i,¬ (n=la/\b<=i/\i<=b+5)->(QG st la b (r.add (Qx ρ it.c))).get n i=st.get n i:=fun i hi=>hA.out _ hi
 have g1:∀l' i',((QG st la b (r.add (Qx ρ it.c))).upd n it.rx (.arr 5 0 [((ρ it.rx).wr r.next).av])).get l' i'=if l'=n/\i'=it.rx then some (.arr 5 0 [((ρ it.rx).wr r.next).av]) else (QG st la b (r.add (Qx ρ it.c))).get l' i' :=
  fun l' i'=>St.get_upd ((a1 _ (h.ar _ (.inr (.inr (.inl k1))))).trans hrx) rfl
 have hp0:((QG st la b (r.add (Qx ρ it.c))).upd n it.rx (.arr 5 0 [((ρ it.rx).wr r.next).av])).get n ip=_:=(g1 n ip).trans ((if_neg (fun q=>hrp.1 q.2.symm)).trans ((a1 _ (h.ar _ (.inl rfl))).trans h1));have g2:∀l' i',(CF st n ip tx ver la b cls.length rx (r.add (Qx ρ it.c)) it.rx ((ρ it.rx).wr r.next) j).get l' i'=if l'=n/\i'=ip then some (.arr 3 0 [.agg [.ptr la (b+5) 0 0 0,.ref n tx ver (j+1) (cls.length-j-1),.ptr n rx 0 0 0]]) else if l'=n/\i'=it.rx then some (.arr 5 0 [((ρ it.rx).wr r.next).av]) else (QG st la b (r.add (Qx ρ it.c))).get l' i':=fun l' i'=>by
  rw[CF,St.get_upd hp0 rfl,g1]
 have hw1:(QG st la b (r.add (Qx ρ it.c))).wr n:=Fk hA.cl.wr h.wr;have hwl:(QG st la b (r.add (Qx ρ it.c))).wr la:=(hA.put _).wr;have hw2:∀ {l:Nat},(QG st la b (r.add (Qx ρ it.c))).wr l->(CF st n ip tx ver la b cls.length rx (r.add (Qx ρ it.c)) it.rx ((ρ it.rx).wr r.next) j).wr l:=fun w=>St.wr_upd (St.wr_upd hw1 hw1) (St.wr_upd hw1 w)
 refine⟨hS,⟨hw2 hw1,⟨_,by rw[g2,if_pos ⟨rfl,rfl⟩,Nat.sub_sub],.inr ⟨hne,rfl,?_⟩⟩,h.cl,fun p hp=>?_,fun k hk=>?_,h.key,h.rk,h.s1,h.s2,h.s3,h.ar,h.len,hjl⟩,?_⟩
 ·rw[g2,if_neg (fun q=>h.s2 q.2),if_neg (fun q=>hrp.2 q.2.symm),a1 _ (h.ar _ (.inr (.inl ⟨hne,rfl⟩)))];exact h3
 ·obtain⟨q1,q2,q3⟩:=h.s3 p hp
  rw[g2,if_neg (fun q=>q2 q.2),if_neg (fun q=>q1 (by rw[q.2];exact k1)),a1 _ (h.ar _ (.inr (.inr (.inr ⟨p,hp,rfl⟩))))];exact h.fx p hp
 ·obtain⟨q1,q2⟩:=h.s1 k hk
  rw[g2,if_neg (fun q=>q1 q.2)];unfold Av;by_cases e:k=it.rx
  ·subst e;rw[if_pos ⟨rfl,rfl⟩,if_pos rfl]
  ·rw[if_neg (fun q=>e q.2),if_neg e,a1 _ (h.ar _ (.inr (.inr (.inl hk))))];exact h.rts k hk
 ·have hP:=hA.put (r.add (Qx ρ it.c))
  have n1:∀i,b<=i->i<=b+5->¬ (la=n/\i=ip)/\¬ (la=n/\i=it.rx):=fun i i1 i2=>⟨fun q=>h.ar ip (.inl rfl) ⟨q.1.symm,by omega,by omega⟩,fun q=>h.ar it.rx (.inr (.inr (.inl k1))) ⟨q.1.symm,by omega,by omega⟩⟩
  have gg:∀i,b<=i->i<=b+5->(CF st n ip tx ver la b cls.length rx (r.add (Qx ρ it.c)) it.rx ((ρ it.rx).wr r.next) j).get la i=(QG st la b (r.add (Qx ρ it.c))).get la i:=fun i i1 i2=>by
   rw[g2,if_neg (n1 i i1 i2).1,if_neg (n1 i i1 i2).2]
  exact⟨hw2 hwl,(gg _ (by omega) (by omega)).trans hP.h0,(gg _ (by omega) (by omega)).trans hP.h1,(gg _ (by omega) (by omega)).trans hP.h2,(gg _ (by omega) (by omega)).trans hP.h3,(gg _ (by omega) (by omega)).trans hP.h4,(gg _ (by omega) (by omega)).trans hP.h5⟩
theorem Em{L:List Blk}{lv:Nat}{b:Blk}(T:List Blk)(h:St.get ⟨A,ro,L⟩ lv ix=some b):St.get ⟨A,ro,L++T⟩ lv ix=some b:=by
 unfold St.get at h ⊢;simp only at h ⊢;split
 ·rename_i q
  rw[if_pos q]at h;have h2:=(Bm h).1;rw[jL (List.getElem?_eq_some_iff.1 h2).1];exact h
 ·rename_i q
  rw[if_neg q]at h;exact h
theorem HasR.app{L:List Blk}{b:Nat}{r:AR}(h:HasR ⟨A,ro,L⟩ la b r)(T:List Blk):HasR ⟨A,ro,L++T⟩ la b r :=
 ⟨Em T h.h0,Em T h.h1,Em T h.h2,Em T h.h3,Em T h.h4,Em T h.h5⟩
mutual
theorem AddT.keys:∀ {t:Tr} {rx:Nat} {its:List It} {R:List (Nat × Ro)},AddT t rx its R->rx∈R.map Prod.fst/\∀it∈its,it.rx∈R.map Prod.fst/\∀k∈DX it.c,k∈R.map Prod.fst
 | _,_,_,_,.kept h0=>⟨by simp,fun it h=>by simp at h⟩
 | _,_,_,_,.leaf=>⟨by simp,fun it h=>by simp only[List.mem_singleton]at h;subst h;exact⟨by simp,fun k hk=>by simp[DX]at hk⟩⟩
 | _,_,_,_,.inner hl hn hx=>by
  obtain⟨h1,h2⟩:=AddL.keys hl;refine⟨by simp,fun it h=>?_⟩;rcases List.mem_append.1 h with q|q
  ·obtain⟨a1,a2⟩:=h2 it q
   exact⟨by rw[List.map_append];exact List.mem_append_left _ a1,fun k hk=>by rw[List.map_append];exact List.mem_append_left _ (a2 k hk)⟩
  ·simp only[List.mem_singleton]at q
   subst q;exact⟨by simp,fun k hk=>by rw[List.map_append];exact List.mem_append_left _ (h1 k hk)⟩
theorem AddL.keys:∀ {l:List Tr} {rs:List Nat} {its:List It} {R:List (Nat × Ro)},AddL l rs its R->(∀r∈rs,r∈R.map Prod.fst)/\∀it∈its,it.rx∈R.map Prod.fst/\∀k∈DX it.c,k∈R.map Prod.fst
 | _,_,_,_,.nil=>⟨fun r h=>by simp at h,fun it h=>by simp at h⟩
 | _,_,_,_,.cons ht hl=>by
  obtain⟨a1,a2⟩:=ht.keys;obtain⟨b1,b2⟩:=hl.keys;refine⟨fun r h=>?_,fun it h=>?_⟩
  ·rw[List.map_append]
   rcases List.mem_cons.1 h with rfl|q
   ·exact List.mem_append_left _ a1
   ·exact List.mem_append_right _ (b1 r q)
  ·rw[List.map_append]
   rcases List.mem_append.1 h with q|q
   ·exact⟨List.mem_append_left _ (a2 it q).1,fun k hk=>List.mem_append_left _ ((a2 it q).2 k hk)⟩
   ·exact⟨List.mem_append_right _ (b2 it q).1,fun k hk=>List.mem_append_right _ ((b2 it q).2 k hk)⟩
end
def OB(R:List (Nat × Ro))(k:Nat):Ro:=((R.find? fun p=>p.1 == k).map Prod.snd).getD .zero
theorem OC:∀ {R:List (Nat × Ro)},(R.map Prod.fst).Nodup->∀p∈R,OB R p.1=p.2
 | [],_,p,hp=>by simp at hp
 | q::R,hn,p,hp=>by
  rw[jC,List.nodup_cons]at hn;unfold OB;rw[List.find?_cons];rcases List.mem_cons.1 hp with rfl|w
  ·simp
  ·have:q.1≠p.1:=fun e=>hn.1 (by rw[e];exact List.mem_map.2 ⟨p,w,rfl⟩)
   rw[show (q.1 == p.1)=false by simp[this]];exact OC hn.2 p w
def PI(t:Tr)(its:List It)(rx:Nat)(ρ:Nat->Ro):Prop:=(IsEmpty t/\its=[]/\ρ rx=.zero)\/(∃N,Val N t)/\∃R,AddT t rx its R/\(∀p∈R,ρ p.1=p.2)/\(R.map Prod.fst).Nodup
def nw(t:Tr):Nat:=if t.old=0/\t.h=0/\t.text=[] then 0 else t.cnt
theorem CG{N:ZC}{t:Tr}(hv:Val N t):nw t=t.cnt:=by
 unfold nw;cases hv with
 | kept h0=>rw[if_neg];simp[Tr.old,h0]
 | leaf h1=>rw[if_neg];rintro⟨_,_,q⟩;simp only[Tr.text]at q;rw[q]at h1;simp at h1
 | inner=>rw[if_neg];simp[Tr.h]
structure Begun(A:List (Bool × List Blk))(L L2:List Blk)(la b:Nat)(t:Tr)(tx ver:Nat)(cs:LV)(its:List It)(F:List (Nat × Blk))(keys:List Nat)(rx:Nat)(ρ:Nat->Ro):Prop where
 ps:PenS ⟨A,false,L2⟩ A.length (L.length+1) tx ver la b cs its F keys rx ρ 0
 len:L.length+2<=L2.length
 old:∀i,i<L.length->L2[i]?=L[i]?
 klo:∀k∈keys,L.length+2<=k
 flo:∀p∈F,L.length+2<=p.1
 tlo:cs≠[]->L.length+2<=tx
 pi:PI t its rx ρ
theorem Znq{N:ZC}{A:List (Bool × List Blk)}{L:List Blk}{la b:Nat}{r:AR}(hA:HasR ⟨A,false,L⟩ la b r)(hN:r.n<=r.blk.length)(h16:r.states.length<=16384)(h6:r.n<65536){t:Tr}(hv:Val r.nodes t)(hb:t.bytes<=65536)(hn:t.cnt<=r.n):
 ∃L2 tx ver cs its F keys rx ρ,S Tb Xo [.ptr la (b+5) 0 0 0,t.av] ⟨A,false,L⟩=some (.tup [.ptr A.length (L.length+1) 0 0 0,.int .i64 0],⟨A,false,L2⟩)/\Begun A L L2 la b t tx ver cs its F keys rx ρ:=by
 have hCk:=fun T=>Nj (hA.app T).rd hv hb
 have hNw:=fun st=>UX hv (by omega) st
 have hSt:=fun T=>II (hA.app T) hN h16 h6
 unfold AR.statsAV at hSt;obtain⟨T,hT⟩:∃T:List Blk,T=[.arr 7 0 [t.av],.arr 3 0 [.agg [.ptr la (b+5) 0 0 0,.nils,.nilptr]]]:=⟨_,rfl⟩
 have hTl:T.length=2:=by rw[hT];rfl
 have hip:(L++T)[L.length+1]?=some (.arr 3 0 [.agg [.ptr la (b+5) 0 0 0,.nils,.nilptr]]):=by rw[QI,hT];rfl
 have hP:Pen A (L++T) (L.length+1) (.ptr la (b+5) 0 0 0) .nils []:=⟨⟨_,hip⟩,.inl ⟨rfl,rfl⟩⟩
 obtain⟨L1,td1,rx,its,cs,R,F,hS,ha⟩:=Zvl hv hb hP (by simp;omega);obtain⟨⟨rp,p1⟩,p2⟩:=ha.pen;rw[lE]at p2;have hl1:=ha.frm.len;rw[lL,hTl]at hl1;have hlt1:L.length+1<L1.length:=(List.getElem?_eq_some_iff.1 p1).1;have hkl:∀k∈R.map Prod.fst,L.length+2<=k:=fun k hk=>by
  obtain⟨p,hp,rfl⟩:=List.mem_map.1 hk;have:=ha.rlo p hp;rwa [lL,hTl]at this
 have hfl:∀p∈F,L.length+2<=p.1:=fun p hp=>by
  have:=ha.flo p hp;rwa [lL,hTl]at this
 have hg:∀i,i≠L.length+1->∀B,(L1.set (L.length+1) B)[i]?=L1[i]?:=fun i hi B=>jS (fun q=>hi q.symm)
 obtain⟨q1,q2⟩:=ha.tr.keys;have hbl:la=A.length->b+5<L.length:=fun e=>by
  have:=hA.h5;subst e;rw[St.get_cur]at this;exact (List.getElem?_eq_some_iff.1 (Bm this).1).1
 obtain⟨tx,ver,t1,t2,t3⟩:∃tx ver,(cs=[]/\td1=.nils/\tx=L.length\/cs≠[]/\td1=.ref A.length tx ver 0 cs.length/\L1[tx]?=some (.arr 1 ver cs)/\L.length+2<=tx/\Ya (L.length+1) td1 tx)/\tx≠L.length+1/\(∀k,L.length+2<=k->¬ Ya (L.length+1) td1 k->k≠tx):=by
  rcases p2 with⟨e1,e2⟩|⟨tx,ver,e1,e2,e3,e4⟩
  ·exact⟨L.length,0,.inl ⟨e2,e1,rfl⟩,by omega,fun k hk _=>by omega⟩
  ·have hX:Ya (L.length+1) td1 tx:=.inr ⟨_,_,_,_,e1⟩
   refine⟨tx,ver,.inr ⟨e4,e1,e2,?_,hX⟩,e3,fun k hk hn q=>hn (by rw[q];exact hX)⟩;rcases ha.frm.own tx hX with w|w
   ·rcases w with w|⟨_,_,_,_,w⟩
    ·exact absurd w e3
    ·simp at w
   ·rwa [lL,hTl]at w
 refine⟨L1.set (L.length+1) (.arr 3 0 [.agg [.ptr la (b+5) 0 0 0,td1,.ptr A.length rx 0 0 0]]),tx,ver,cs,its,F,R.map Prod.fst,rx,OB R,X4 Y ?_,⟨⟨by simp[St.wr],⟨td1,by rw[St.get_cur,List.getElem?_set_self hlt1];rfl,?_⟩,ha.cl,?_,?_,q2,q1,?_,t2,?_,?_,?_,Nat.zero_le _⟩,by rw[List.length_set];omega,?_,hkl,hfl,fun hc=>(by
  rcases t1 with⟨w,_⟩|⟨_,_,_,w,_⟩
  ·exact absurd w hc
  ·exact w),.inr ⟨⟨_,hv⟩,R,ha.tr,OC ha.nd,ha.nd⟩⟩⟩
 ·have e0:(⟨A,false,L⟩:St)=⟨A,false,L++[]⟩:=by rw[lN]
  rw[e0];rw[hT]at hS;repeat'(first|refine XM Y (Zn _) (Z1 _) Y Y ?_|refine XM Y Y Y Y Y ?_|refine As Y Y Y (Zb _) ?_|refine ruS Y ?_|refine isS Y ?_|refine ZO ?_|refine EN (agg:=false) Y Y ?_|refine cm0 Y Y Y ?_ ?_|(intro _;try omega)|refine Zf Y Y Y ?_|refine zA0 Y Y (hCk _) ?_|refine zA0 Y Y (hNw _) ?_|refine zA0 Y Y (hSt _) ?_|refine zA0 Y Y (hS) ?_)
  all_goals try omega
  refine Qn p1 Y Y Y ?_ Y ?_
  ·simp only[ZI,Zs,if_pos (Nat.lt_succ_self _)]
  repeat'(first|refine ruS Y ?_|refine isS Y ?_|refine rkS Y ?_)
  refine (Jq (.inr Y) Y Y Y Y).trans ?_;rfl
 ·rcases t1 with⟨e1,e2,e3⟩|⟨e0,e1,e2,e3⟩
  ·exact .inl ⟨e1,e2⟩
  ·exact .inr ⟨e0,e1,by rw[St.get_cur,hg _ t2,e2];rfl⟩
 ·intro p hp
  obtain⟨f1,f2⟩:=ha.fx p hp;obtain⟨w,v,es,f3,f4⟩:=ha.fw p hp;have:p.1≠L.length+1:=fun q=>f2 (.inl q)
  rw[St.get_cur,hg _ this,f1,f3];rfl
 ·intro k hk
  obtain⟨p,hp,rfl⟩:=List.mem_map.1 hk;obtain⟨f1,f2⟩:=ha.rts.get hp;have:p.1≠L.length+1:=fun q=>f2 (.inl q)
  rw[St.get_cur,hg _ this,f1,OC ha.nd p hp];rfl
 ·intro k hk
  have h1:=hkl k hk;obtain⟨p,hp,rfl⟩:=List.mem_map.1 hk;exact⟨by omega,t3 _ h1 (ha.rts.get hp).2⟩
 ·intro p hp
  obtain⟨f1,f2⟩:=ha.fx p hp;obtain⟨w,v,es,f3,f4⟩:=ha.fw p hp;have h1:=hfl p hp;refine⟨fun q=>?_,by omega,t3 _ h1 f2⟩;obtain⟨u,hu,e⟩:=List.mem_map.1 q;have f5:=(ha.rts.get hu).1;rw[e,f1,f3]at f5;simp only[oJ,Blk.arr.injEq]at f5;exact f4 f5.1
 ·intro i hi ⟨e1,e2,e3⟩
  have:=hbl e1.symm;rcases hi with rfl|⟨c1,rfl⟩|q|⟨p,hp,rfl⟩
  ·omega
  ·rcases t1 with⟨w,_⟩|⟨_,_,_,w,_⟩
   ·exact c1 w
   ·omega
  ·have:=hkl i q;omega
  ·have:=hfl p hp;omega
 ·have h1:=ha.cl.len
  have h2:=ha.tr.cnt;omega
 ·intro i hi
  rw[hg i (by omega),ha.frm.old i (by rw[lL];omega) (fun q=>?_),jL hi];rcases q with q|⟨_,_,_,_,q⟩
  ·omega
  ·simp at q
theorem OD{A:List (Bool × List Blk)}{ro:Bool}{L:List Blk}{i:Nat}{b:Blk}(h:L[i]?=some b)(hv:vis (some b)=some b):St.get ⟨A,ro,L⟩ A.length i=some b:=by rw[St.get_cur,h,hv]
theorem Znr{t:Tr}(ht:IsEmpty t)(st:St):S Tb EV [t.av] st=some (.int .i64 (0:Nat),st) :=
 N8 (c:=1) ht.ks (fun st=>Fs t ht st) st
theorem Zjh{A:List (Bool × List Blk)}{L:List Blk}{la b:Nat}{r:AR}(hA:HasR ⟨A,false,L⟩ la b r)(hN:r.n<=r.blk.length)(h16:r.states.length<=16384)(h6:r.n<65536){t:Tr}(ht:IsEmpty t):
 ∃L2 tx ver cs its F keys rx ρ,S Tb Xo [.ptr la (b+5) 0 0 0,t.av] ⟨A,false,L⟩=some (.tup [.ptr A.length (L.length+1) 0 0 0,.int .i64 0],⟨A,false,L2⟩)/\Begun A L L2 la b t tx ver cs its F keys rx ρ:=by
 have hCk:=fun T=>TT (st:=⟨A,false,L++T⟩) (lv:=la) (ix:=b+5) ht
 have hNw:=fun st=>Znr ht st
 have hSt:=fun T=>II (hA.app T) hN h16 h6
 unfold AR.statsAV at hSt;have hbl:la=A.length->b+5<L.length:=fun e=>by
  have:=hA.h5;subst e;rw[St.get_cur]at this;exact (List.getElem?_eq_some_iff.1 (Bm this).1).1
 obtain⟨T,hT⟩:∃T:List Blk,T=[.arr 7 0 [t.av],.arr 3 0 [.agg [.ptr la (b+5) 0 0 0,.nils,.nilptr]]]:=⟨_,rfl⟩
 have hadd:S Tb Qf [.ptr A.length (L.length+1) 0 0 0,t.av] ⟨A,false,L++T⟩=some (.ptr A.length ((L++T).length+1) 0 0 0,⟨A,false,(L++T)++[.arr 7 0 [t.av],.arr 5 0 [Ro.zero.av]]⟩):=by
  refine X4 Y ?_;have e0:(⟨A,false,L++T⟩:St)=⟨A,false,(L++T)++[]⟩:=by rw[lN]
  rw[e0];generalize L++T=L0;obtain⟨o,h,m,s,k⟩:=t;obtain⟨h1,h2,h3,h4,h5⟩:=ht;simp only[Tr.old,Tr.h,Tr.m,Tr.text,Tr.ks]at h1 h2 h3 h4 h5;subst h1 h2 h3 h4;obtain⟨ka,hka,hka2⟩:∃ka,Tr.avO k=ka/\(ka=.nils\/ka=.lit []):=by
   cases k with
   | none=>exact⟨_,rfl,.inl Y⟩
   | some l=>have:l=[]:=h5;subst this;exact⟨_,rfl,.inr Y⟩
  simp only[Tr.av,Mea.zero,hka]at *;rcases hka2 with rfl|rfl;all_goals repeat'(first|refine XM Y Y Y Y Y ?_|refine As Y Y Y Y ?_|refine ruS Y ?_|refine isS Y ?_|refine rkS Y ?_|refine DL Y Y ?_|refine J2 Y ?_|refine cm0 Y Y Y ?_ ?_|(intro _;try omega)|(refine BI Y Y (fun _=>?_) (fun _=>?_)<;>try contradiction)|refine Zf Y Y Y ?_)
  all_goals try first|contradiction|omega
  all_goals refine (Jq (.inr Y) Y Y Y Y).trans ?_
  all_goals rfl
 have hTl:T.length=2:=by rw[hT];rfl
 have hl2:(L++T).length=L.length+2:=by rw[lL,hTl]
 rw[hl2]at hadd;have p1:((L++T)++[Blk.arr 7 0 [t.av],Blk.arr 5 0 [Ro.zero.av]])[L.length+1]?=some (.arr 3 0 [.agg [.ptr la (b+5) 0 0 0,.nils,.nilptr]]):=by
  rw[List.append_assoc,QI,hT];rfl
 refine⟨((L++T)++[Blk.arr 7 0 [t.av],Blk.arr 5 0 [Ro.zero.av]]).set (L.length+1) (Blk.arr 3 0 [.agg [.ptr la (b+5) 0 0 0,.nils,.ptr A.length (L.length+3) 0 0 0]]),L.length,0,[],[],[],[L.length+3],L.length+3,fun _=>.zero,X4 Y ?_,⟨⟨by simp[St.wr],⟨.nils,?_,.inl ⟨rfl,rfl⟩⟩,.nil,fun p hp=>by simp at hp,fun k hk=>?_,fun it hi=>by simp at hi,by simp,fun k hk=>?_,by omega,fun p hp=>by simp at hp,fun i hi=>?_,by simp,Nat.zero_le _⟩,by simp,fun i hi=>?_,fun k hk=>?_,fun p hp=>by simp at hp,fun hc=>absurd rfl hc,.inl ⟨ht,rfl,rfl⟩⟩⟩
 ·have e0:(⟨A,false,L⟩:St)=⟨A,false,L++[]⟩:=by rw[lN]
  rw[e0];rw[hT]at hadd p1 ⊢;repeat'(first|refine XM Y (Zn _) (Z1 _) Y Y ?_|refine XM Y Y Y Y Y ?_|refine As Y Y Y (Zb _) ?_|refine ruS Y ?_|refine isS Y ?_|refine ZO ?_|refine EN (agg:=false) Y Y ?_|refine cm0 Y Y Y ?_ ?_|(intro _;try omega)|refine Zf Y Y Y ?_|refine zA0 Y Y (hCk _) ?_|refine zA0 Y Y (hNw _) ?_|refine zA0 Y Y (hSt _) ?_|refine zA0 Y Y (hadd) ?_)
  all_goals try omega
  refine Qn p1 Y Y Y ?_ Y ?_
  ·simp only[ZI,Zs,if_pos (Nat.lt_succ_self _)]
  repeat'(first|refine ruS Y ?_|refine isS Y ?_|refine rkS Y ?_)
  refine (Jq (.inr Y) Y Y Y Y).trans ?_;rfl
 ·exact OD (List.getElem?_set_self (by simp)) Y
 ·simp only[List.mem_singleton]at hk
  subst hk;refine OD ?_ Y;rw[jS (by omega),show L.length+3=(L++T).length+1 by rw[hl2],QI];rfl
 ·simp only[List.mem_singleton]at hk
  omega
 ·rintro⟨e1,e2,e3⟩
  have:=hbl e1.symm;rcases hi with rfl|⟨c1,rfl⟩|q|⟨p,hp,rfl⟩
  ·omega
  ·exact c1 Y
  ·simp only[List.mem_singleton]at q;omega
  ·simp at hp
 ·rw[jS (by omega),List.append_assoc,jL hi]
 ·simp only[List.mem_singleton]at hk
  omega
theorem Zns{b lv:Nat}(st:St)(h:lv<b):ZI Zs b st (.map lv ix)=some (.map lv ix,st):=by
 simp only[ZI,Zs,if_pos h]
def YG(l:List Nat):List (AV × AV):=l.map fun (h:Nat)=>(AV.int .u64 h,AV.bool true)
theorem Ue(o:Nat):∀l:List Nat,AP (.int .u64 o) (YG l)=some (if o∈l then some (.bool true) else none)
 | []=>rfl
 | p::l=>by
  rw[YG,jC,AP];show (Option.bind (if IntKind.u64=IntKind.u64 then some ((o:Int) == (p:Int)) else none) fun b=>if b=true then some (some (AV.bool true)) else AP (.int .u64 o) (YG l))=_
  rw[if_pos rfl,oS,Ue o l];by_cases q:o=p
  ·subst q;simp
  ·rw[if_neg (by simp;omega)]
   simp[q]
theorem F6(o:Nat):∀l:List Nat,o∉l->AE (.int .u64 o) (.bool true) (YG l)=some (YG (l++[o]))
 | [],_=>rfl
 | p::l,h=>by
  simp only[List.mem_cons,not_or]at h;rw[YG,jC,AE];show (Option.bind (if IntKind.u64=IntKind.u64 then some ((o:Int) == (p:Int)) else none) fun b=>if b=true then some ((AV.int .u64 o,AV.bool true)::YG l) else (AE (.int .u64 o) (.bool true) (YG l)).map ((AV.int .u64 p,AV.bool true)::·))=_
  rw[if_pos rfl,oS,if_neg (by simp;omega),F6 o l h.2];rfl
theorem Cn{lv:Nat}(hg:st.get lv mx=some (.map (YG l)))(o:Nat):lookV st 0 (.bool false) false (.int .u64 o) (.map lv mx)=some (.bool (decide (o∈l))):=by
 simp only[lookV,Di,hg,AA,oS,Jh,if_true,Ue];by_cases q:o∈l
 ·simp[q,Dj]
 ·simp[q,Dj]
def Zj(h:Nat):AV:=.int .u64 h
section
variable {O:Orc}{k:List Fr}{Q:JD}{e:Env}{A:List (Bool × List Blk)}{L:List Blk}{keep:List Nat}{is:List QAbs.PI}{d:Nat}
theorem ZtK{s x:Opd}{lv jx w bytes:Nat}{es ys:LV}(hA:A=st.A++[(st.ro,st.L)])(hwr:st.wr lv)(hg:st.get lv jx=some (.arr w ver es))(hs:ZL e s=some (.ref lv jx ver 0 es.length))(hx:ZL e x=some (.lit ys))
 (hw:Qy w ys=true) (hsl:mapSt (ZI Zs (lv+1)) ⟨A,false,L⟩ ys=some (ys,⟨A,false,L⟩)) (hl:es.length+ys.length<4294967296) (hb:bytes<=4096)
 (h:∀A',A'=(st.upd lv jx (.arr w (ver+1) (es++ys))).A++[((st.upd lv jx (.arr w (ver+1) (es++ys))).ro,(st.upd lv jx (.arr w (ver+1) (es++ys))).L)]->Is O is keep k Q ((d,.ref lv jx (ver+1) 0 (es.length+ys.length))::e) ⟨A',false,L⟩) :
 Is O (⟨some d,none,false,.app w bytes s x⟩::is) keep k Q e ⟨A,false,L⟩:=by
 have hlv:=St.get_le hg;refine Zm (v:=.ref lv jx (ver+1) 0 (es.length+ys.length)) (st':=St.upd ⟨A,false,L⟩ lv jx (.arr w (ver+1) (es++ys))) ?_ ?_
 ·have hg':=ZD hA (ro:=false) (L:=L) hg
  have hw':=Yj hA hlv hwr (ro:=false) (L:=L);simp only[ZW,evalPO,ZB hs,ZB hx,elems,oS,Q8,hw,if_true,hsl,BX,hg',Ag,true_and,if_pos (show 0+es.length<=es.length/\es.length+ys.length<4294967296/\bytes<=4096 by omega),List.drop_zero];rw[List.take_of_length_le (by omega),St.put_upd hw' hg'];rfl
 ·rw[JE hA hlv]
  exact h _ Y
end
namespace Tr
mutual
def kwT:Tr->List Nat->List Nat
 | .mk o _ _ _ k,out=>kwO k (if o≠0/\o∉out then out++[o] else out)
def kwO:Option (List Tr)->List Nat->List Nat
 | none,out=>out
 | some l,out=>kwL l out
def kwL:List Tr->List Nat->List Nat
 | [],out=>out
 | t::l,out=>kwL l (kwT t out)
end
mutual
def siz:Tr->Nat
 | .mk _ _ _ _ k=>1+sizO k
def sizO:Option (List Tr)->Nat
 | none=>0
 | some l=>sizL l
def sizL:List Tr->Nat
 | []=>0
 | t::l=>siz t+sizL l
end
theorem kwL_append:∀(a b:List Tr) (out:List Nat),kwL (a++b) out=kwL b (kwL a out)
 | [],b,out=>rfl
 | t::a,b,out=>by rw[lC,kwL,kwL,kwL_append a b]
theorem sizL_append:∀a b,sizL (a++b)=sizL a+sizL b
 | [],b=>by simp[sizL]
 | t::a,b=>by rw[lC,sizL,sizL,sizL_append a b];omega
theorem kwO_getD(k:Option (List Tr))(out:List Nat):kwO k out=kwL (k.getD []) out:=by cases k<;>rfl
theorem sizO_getD(k:Option (List Tr)):sizO k=sizL (k.getD []):=by cases k<;>rfl
theorem kwT_len(t:Tr):∀out,(kwT t out).length<=out.length+t.siz:=by
 induction t using Tr.ind with
 | step o h m s k ih =>
  intro out;rw[kwT,siz,kwO_getD,sizO_getD];have key:∀(l:List Tr),(∀t∈l,∀out,(kwT t out).length<=out.length+t.siz)->∀out,(kwL l out).length<=out.length+sizL l:=by
   intro l;induction l with
   | nil=>intro _ out;simp[kwL,sizL]
   | cons a l ih2 =>
    intro hl out;rw[kwL,sizL];have h1:=ih2 (fun t ht=>hl t (by simp[ht])) (kwT a out);have h2:=hl a (by simp) out;omega
  have:=key (k.getD []) ih (if o≠0/\o∉out then out++[o] else out);split at this
  ·rename_i q;rw[if_pos q];rw[lL,List.length_singleton]at this;omega
  ·rename_i q;rw[if_neg q];omega
theorem kwL_len:∀(l:List Tr) (out:List Nat),(kwL l out).length<=out.length+sizL l
 | [],out=>by simp[kwL,sizL]
 | t::l,out=>by
  rw[kwL,sizL];have h1:=kwL_len l (kwT t out);have h2:=kwT_len t out;omega
end Tr
structure KS(st:St)(lv mb mx ob ox wb ver:Nat)(out:List Nat):Prop where
 wr:st.wr lv
 hm:st.get lv mb=some (.arr 1 0 [.map lv mx])
 hmx:st.get lv mx=some (.map (YG out))
 ho:st.get lv ob=some (.arr 1 0 [.ref lv ox ver 0 out.length])
 hox:st.get lv ox=some (.arr 1 ver (out.map Zj))
 hw:st.get lv wb=some (.arr 1 0 [.func (.func Yy) [] [.ptr lv mb 0 0 0,.ptr lv ob 0 0 0,.ptr lv wb 0 0 0]])
 n1:mx≠ox
 n2:mx≠ob
 n3:ox≠ob
 n4:mb≠mx/\mb≠ox/\mb≠ob
 n5:wb≠mx/\wb≠ox/\wb≠ob
def JR(st:St)(lv mx ob ox ver:Nat)(out:List Nat):St:=((st.upd lv mx (.map (YG out))).upd lv ox (.arr 1 ver (out.map Zj))).upd lv ob (.arr 1 0 [.ref lv ox ver 0 out.length])
theorem KS.get{st:St}{lv mb mx ob ox wb ver:Nat}{out:List Nat}(h:KS st lv mb mx ob ox wb ver out)(v:Nat)(t:List Nat)(l' i':Nat):
 (JR st lv mx ob ox v t).get l' i'=if l'=lv/\i'=ob then some (.arr 1 0 [.ref lv ox v 0 t.length]) else if l'=lv/\i'=ox then some (.arr 1 v (t.map Zj)) else if l'=lv/\i'=mx then some (.map (YG t)) else st.get l' i':=by
 have g1:∀l' i',(st.upd lv mx (.map (YG t))).get l' i'=if l'=lv/\i'=mx then some (.map (YG t)) else st.get l' i':=fun l' i'=>St.get_upd h.hmx rfl
 have b1:(st.upd lv mx (.map (YG t))).get lv ox=some (.arr 1 ver (out.map Zj)):=by rw[g1,if_neg (fun q=>h.n1 q.2.symm)];exact h.hox
 have g2:∀l' i',((st.upd lv mx (.map (YG t))).upd lv ox (.arr 1 v (t.map Zj))).get l' i'=if l'=lv/\i'=ox then some (.arr 1 v (t.map Zj)) else (st.upd lv mx (.map (YG t))).get l' i':=fun l' i'=>St.get_upd b1 rfl
 have b2:((st.upd lv mx (.map (YG t))).upd lv ox (.arr 1 v (t.map Zj))).get lv ob=some (.arr 1 0 [.ref lv ox ver 0 out.length]):=by rw[g2,if_neg (fun q=>h.n3 q.2.symm),g1,if_neg (fun q=>h.n2 q.2.symm)];exact h.ho
 rw[JR,St.get_upd b2 rfl,g2,g1]
theorem KS.put{st:St}{lv mb mx ob ox wb ver:Nat}{out:List Nat}(h:KS st lv mb mx ob ox wb ver out)(v:Nat)(t:List Nat):KS (JR st lv mx ob ox v t) lv mb mx ob ox wb v t:=by
 refine⟨St.wr_upd (St.wr_upd (St.wr_upd h.wr h.wr) (St.wr_upd h.wr h.wr)) (St.wr_upd (St.wr_upd h.wr h.wr) (St.wr_upd h.wr h.wr)),?_,?_,?_,?_,?_,h.n1,h.n2,h.n3,h.n4,h.n5⟩
 ·rw[h.get,if_neg (fun q=>h.n4.2.2 q.2),if_neg (fun q=>h.n4.2.1 q.2),if_neg (fun q=>h.n4.1 q.2)];exact h.hm
 ·rw[h.get,if_neg (fun q=>h.n2 q.2),if_neg (fun q=>h.n1 q.2),if_pos ⟨rfl,rfl⟩]
 ·rw[h.get,if_pos ⟨rfl,rfl⟩]
 ·rw[h.get,if_neg (fun q=>h.n3 q.2),if_pos ⟨rfl,rfl⟩]
 ·rw[h.get,if_neg (fun q=>h.n5.2.2 q.2),if_neg (fun q=>h.n5.2.1 q.2),if_neg (fun q=>h.n5.1 q.2)];exact h.hw
theorem KS.same{st:St}{lv mb mx ob ox wb ver:Nat}{out:List Nat}(h:KS st lv mb mx ob ox wb ver out):JR st lv mx ob ox ver out=st:=by
 rw[JR,upd_same h.hmx,upd_same h.hox,upd_same h.ho]
theorem Znt{st:St}{lv mx ob ox v1 v2:Nat}{s t:List Nat}(h1:mx≠ox)(h2:mx≠ob)(h3:ox≠ob):JR (JR st lv mx ob ox v1 s) lv mx ob ox v2 t=JR st lv mx ob ox v2 t:=by
 unfold JR;generalize Blk.map (YG s)=a1;generalize Blk.map (YG t)=a2;generalize Blk.arr 1 v1 (s.map Zj)=b1;generalize Blk.arr 1 v2 (t.map Zj)=b2;generalize Blk.arr 1 0 [AV.ref lv ox v1 0 s.length]=c1;generalize Blk.arr 1 0 [AV.ref lv ox v2 0 t.length]=c2;rw[F1 (st:=(st.upd lv mx a1).upd lv ox b1) (fun q=>h2 q.symm),F1 (st:=st.upd lv mx a1) (fun q=>h1 q.symm),Cj,F1 (st:=(st.upd lv mx a2).upd lv ox b1) (fun q=>h3 q.symm),Cj,Cj]
theorem ZlO{st:St}{A:List (Bool × List Blk)}{ro:Bool}{L:List Blk}(hA:A=st.A++[(st.ro,st.L)]){lv mx ob ox ver:Nat}{t:List Nat}(hl:lv<=st.A.length):
 JR ⟨A,ro,L⟩ lv mx ob ox ver t=⟨(JR st lv mx ob ox ver t).A++[((JR st lv mx ob ox ver t).ro,(JR st lv mx ob ox ver t).L)],ro,L⟩:=by
 unfold JR;rw[JE hA hl];have e2:=fun (b:Blk)=>JE (st:=st.upd lv mx (.map (YG t))) (A:=(st.upd lv mx (.map (YG t))).A++[((st.upd lv mx (.map (YG t))).ro,(st.upd lv mx (.map (YG t))).L)]) (ro:=ro) (L:=L) (lv:=lv) (ix:=ox) (b:=b) rfl (by rw[St.upd_A];exact hl)
 rw[e2];exact JE Y (by rw[St.upd_A,St.upd_A];exact hl)
theorem KS.push{st:St}{A:List (Bool × List Blk)}{ro:Bool}{L:List Blk}(hA:A=st.A++[(st.ro,st.L)]){lv mb mx ob ox wb ver:Nat}{out:List Nat}(h:KS st lv mb mx ob ox wb ver out):KS ⟨A,ro,L⟩ lv mb mx ob ox wb ver out :=
 ⟨Yj hA (St.get_le h.hm) h.wr,ZD hA h.hm,ZD hA h.hmx,ZD hA h.ho,ZD hA h.hox,ZD hA h.hw,h.n1,h.n2,h.n3,h.n4,h.n5⟩
theorem ZtL(st:St)(lv mx ob ox ver:Nat)(out:List Nat):(JR st lv mx ob ox ver out).A.length=st.A.length:=by
 unfold JR;rw[St.upd_A,St.upd_A,St.upd_A]
theorem ZtM(t:Tr):t.Pos->∀ {st:St} {lv mb mx ob ox wb ver:Nat} {out:List Nat},KS st lv mb mx ob ox wb ver out->out.length+t.siz<4294967296 ->
 Sp Tb Yy [t.av,.ptr lv mb 0 0 0,.ptr lv ob 0 0 0,.ptr lv wb 0 0 0] st fun v st'=>v=.tup []/\∃ver',st'=JR st lv mx ob ox ver' (t.kwT out):=by
 induction t using Tr.ind with
 | step o h m s k ih =>
  intro hp st lv mb mx ob ox wb ver out hs hl;cases hp with
  | mk h0 h4 hk2 =>
  have e1:(Tr.mk o h m s k).kwT out=Tr.kwL (k.getD []) (if o≠0/\o∉out then out++[o] else out):=by rw[Tr.kwT,Tr.kwO_getD]
  have e2:(Tr.mk o h m s k).siz=1+Tr.sizL (k.getD []):=by rw[Tr.siz,Tr.sizO_getD]
  rw[e1];rw[e2]at hl;refine K5 Y ?_;obtain⟨A,hA⟩:∃A,A=st.A++[(st.ro,st.L)]:=⟨_,rfl⟩;rw[<- hA];have hlv:=St.get_le hs.hm;have hav:(Tr.mk o h m s k).av=.agg [.int .u64 o,.int .i64 h,.int .i64 m.b,.int .i64 m.r,.int .i64 m.l,.str s,slV Tr.av k]:=by rw[Tr.av,Tr.avO_sl]
  have key:∀(ver1:Nat) (out1:List Nat) (A1:List (Bool × List Blk)),A1=(JR st lv mx ob ox ver1 out1).A++[((JR st lv mx ob ox ver1 out1).ro,(JR st lv mx ob ox ver1 out1).L)]->out1.length<=out.length+1->∀e:Env,e=[(3,.ptr lv wb 0 0 0),(4,.ptr A.length 0 0 0 0)]\/e=[(1,.ptr lv mb 0 0 0),(2,.ptr lv ob 0 0 0),(3,.ptr lv wb 0 0 0),(4,.ptr A.length 0 0 0 0),(16,.bool false)] ->
   Ru (S Tb) (.seq Sx (.block 0 (.loop Mp))) [] (fun x e st''=>∃v st',QT false ([]:List RV) (x,e,st'')=some (v,st')/\v=.tup []/\∃ver',st'=JR st lv mx ob ox ver' (Tr.kwL (k.getD []) out1)) e ⟨A1,false,[.arr 7 0 [(Tr.mk o h m s k).av]]⟩:=by
   intro ver1 out1 A1 hA1 hl1 e he;have hAl:A.length=A1.length:=by rw[hA,hA1];simp[ZtL]
   rw[hAl]at he;rw[hav];cases k with
   | none =>
    simp only[slV];rcases he with rfl|rfl;all_goals repeat'(first|refine ruS Y ?_|refine isS Y ?_|refine ZE Y Y Y Y ?_|refine rkS Y ?_|refine J2 Y ?_|refine cm0 Y Y Y ?_ ?_|(intro _;try omega)|refine YL ?_)
    all_goals try omega
    all_goals exact⟨_,_,ZQ hA1 (.inl Y) Y Y Y Y Y,rfl,ver1,rfl⟩
   | some l =>
    simp only[Option.getD]at h4 hk2 ih hl ⊢;simp only[slV];have hloop:Ru (S Tb) (.loop Mp) [.blk 0] (fun x e st''=>∃v st',QT false ([]:List RV) (x,e,st'')=some (v,st')/\v=.tup []/\∃ver',st'=JR st lv mx ob ox ver' (Tr.kwL l out1)) [(3,.ptr lv wb 0 0 0),(26,.lit (l.map Tr.av)),(27,.int .i64 l.length),(28,.int .i64 0)] ⟨A1,false,[.arr 7 0 [.agg [.int .u64 o,.int .i64 h,.int .i64 m.b,.int .i64 m.r,.int .i64 m.l,.str s,.lit (l.map Tr.av)]]]⟩:=by
     refine Ze (α:=Nat × List Blk × Nat) (fun p=>[(3,.ptr lv wb 0 0 0),(26,.lit (l.map Tr.av)),(27,.int .i64 l.length),(28,.int .i64 p.1)])
      (fun p=>⟨(JR st lv mx ob ox p.2.2 (Tr.kwL (l.take p.1) out1)).A++[((JR st lv mx ob ox p.2.2 (Tr.kwL (l.take p.1) out1)).ro,(JR st lv mx ob ox p.2.2 (Tr.kwL (l.take p.1) out1)).L)],false,.arr 7 0 [.agg [.int .u64 o,.int .i64 h,.int .i64 m.b,.int .i64 m.r,.int .i64 m.l,.str s,.lit (l.map Tr.av)]]::p.2.1⟩)
      (fun p=>p.1<=l.length) (fun p=>l.length-p.1) (0,[],ver1) rfl ?_ (by simp) ?_
     ·simp only[List.take_zero,Tr.kwL,<- hA1]
     rintro⟨i,G,ver2⟩ hi;simp only at hi ⊢;have hk3:=hs.put ver2 (Tr.kwL (l.take i) out1);have hpp:∀v3 t3,JR (JR st lv mx ob ox ver2 (Tr.kwL (l.take i) out1)) lv mx ob ox v3 t3=JR st lv mx ob ox v3 t3:=fun v3 t3=>Znt hs.n1 hs.n2 hs.n3
     generalize hs1:JR st lv mx ob ox ver2 (Tr.kwL (l.take i) out1)=st1 at *;obtain⟨A2,hA2⟩:∃A2,A2=st1.A++[(st1.ro,st1.L)]:=⟨_,rfl⟩;rw[<- hA2];have hgw:=fun L=>ZD hA2 (ro:=false) (L:=L) hk3.hw
     repeat'(first|refine ruS Y ?_|refine Jg Y ?_|refine rkS Y ?_|refine cm0 Y Y Y ?_ ?_|(intro _;try omega)|refine Zi Y Y Y ?_|refine Jy Y Y (by omega) Zn (fun _ _=>?_)|refine Zx Y (Zb _) ?_|refine Jr Y Y Y (Z9 _ _ _) (Qg _ _) Y ?_)
     ·rename_i u hu
      have hu2:l[i]?=some u:=hu;have hum:=jM hu2;have hle:lv<=st1.A.length:=St.get_le hk3.hm;have hsum:Tr.sizL l=Tr.sizL (l.take i)+(u.siz+Tr.sizL (l.drop (i+1))):=by
       conv=>lhs;rw[<- List.take_append_drop (i+1) l,ZF hu2,Tr.sizL_append,Tr.sizL_append]
       simp[Tr.sizL];omega
      have hlen:=Tr.kwL_len (l.take i) out1;have ihu:=fun L=>ih u hum (hk2 u hum) (hk3.push hA2 (ro:=false) (L:=L)) (by omega)
      have hkw:Tr.kwL (l.take (i+1)) out1=u.kwT (Tr.kwL (l.take i) out1):=by
       rw[ZF hu2,Tr.kwL_append];rfl
      refine Zk Y (hgw _) Y Y ?_;repeat'(refine QU Y Y (Zb _) ?_)
      refine HP Y Y (wk4 _ _ _ _ Y Y Y) (ihu _) ?_;rintro v st' ⟨rfl,v3,rfl⟩;rw[ZlO hA2 hle,hpp,<- hkw];repeat'(first|refine Qv ?_|refine isS Y ?_|refine rkS Y ?_|refine ZV Y Y (by omega) ?_)
      exact⟨(i+1,_,v3),⟨rfl,rfl⟩,by simp only;omega,by simp only;omega⟩
     ·have hi':i=l.length:=by omega
      subst hi';rw[List.take_length]at *;exact⟨_,_,ZQ hA2 (.inl Y) Y Y Y Y Y,rfl,ver2,hs1.symm⟩
    rcases he with rfl|rfl;all_goals repeat'(first|exact hloop|refine ruS Y ?_|refine isS Y ?_|refine ZE Y Y Y Y ?_|refine ZO ?_|refine Z5 Y ?_)
  have hg1:=fun L=>ZD hA (ro:=false) (L:=L) hs.hm
  have hg2:=fun L=>ZD hA (ro:=false) (L:=L) hs.hmx
  have hlk:=fun L=>Cn (hg2 L) o
  have hkey0:=key ver out A (by rw[hs.same];exact hA) (by omega) _ (.inr Y);have hwide:=Zn (Tr.mk o h m s k);have hforce:=Z1 (Tr.mk o h m s k);rw[hav]at hwide hforce;by_cases ho:o=0
  ·subst ho
   rw[if_neg (by simp)];rw[hav]at hkey0 ⊢;repeat'(first|refine Zi Y hwide hforce ?_|exact hkey0|refine ruS Y ?_|refine isS Y ?_|refine ZE Y Y Y Y ?_|refine ZO ?_|refine cm0 Y Y Y ?_ ?_|(intro _;try omega))
   all_goals contradiction
  ·by_cases hm:o∈out
   ·rw[if_neg (by simp[hm])]
    rw[hav]at hkey0 ⊢;rw[decide_eq_true hm]at hlk;repeat'(first|refine Zi Y hwide hforce ?_|exact hkey0|refine ruS Y ?_|refine isS Y ?_|refine ZE Y Y Y Y ?_|refine ZO ?_|refine cm0 Y Y Y ?_ ?_|(intro _;try omega)|refine Zk Y (hg1 _) Y Y ?_|refine YI Y Y (hlk _) ?_)
    all_goals contradiction
   ·rw[if_pos ⟨ho,hm⟩]
    have hkey:=key (ver+1) (out++[o]);rw[hav]at hkey ⊢;rw[decide_eq_false hm]at hlk;repeat'(first|refine Zi Y hwide hforce ?_|refine ruS Y ?_|refine isS Y ?_|refine ZE Y Y Y Y ?_|refine ZO ?_|refine cm0 Y Y Y ?_ ?_|(intro _;try omega)|refine Zk Y (hg1 _) Y Y ?_|refine YI Y Y (hlk _) ?_)
    all_goals try contradiction
    refine T5 hA Y Y Y hs.wr hs.hmx Y (F6 o out hm) (fun A' hA'=>?_);have q1:∀l' i',(st.upd lv mx (.map (YG (out++[o])))).get l' i'=if l'=lv/\i'=mx then some (.map (YG (out++[o]))) else st.get l' i':=fun l' i'=>St.get_upd hs.hmx rfl
    have ka:(st.upd lv mx (.map (YG (out++[o])))).get lv ob=some (.arr 1 0 [.ref lv ox ver 0 out.length]):=by rw[q1,if_neg (fun q=>hs.n2 q.2.symm)];exact hs.ho
    have kb:(st.upd lv mx (.map (YG (out++[o])))).get lv ox=some (.arr 1 ver (out.map Zj)):=by rw[q1,if_neg (fun q=>hs.n1 q.2.symm)];exact hs.hox
    have hw1:=St.wr_upd (b:=.map (YG (out++[o]))) (ix:=mx) hs.wr hs.wr;have hAl:A.length=A'.length:=by rw[hA,hA'];simp[St.upd_A]
    rw[hAl]at hkey ⊢;have hput:JR st lv mx ob ox (ver+1) (out++[o])=((st.upd lv mx (.map (YG (out++[o])))).upd lv ox (.arr 1 (ver+1) (out.map Zj++[.int .u64 o]))).upd lv ob (.arr 1 0 [.ref lv ox (ver+1) 0 (out.length+1)]):=by
     unfold JR;rw[List.map_append,lL];rfl
    rw[hput]at hkey;clear hput q1;generalize st.upd lv mx (.map (YG (out++[o])))=st1 at *;have hg3:=fun L=>ZD hA' (ro:=false) (L:=L) ka
    repeat'(first|refine Qv ?_|refine isS Y ?_|refine ZE Y Y Y Y ?_|refine ZO ?_|refine Z7 Y Y Y Y ?_|refine Zk Y (hg3 _) Y Y ?_)
    refine ZtK hA' hw1 kb (by rw[List.length_map];rfl) rfl rfl rfl (by simp;omega) (by decide) (fun A2 hA2=>?_);have q2:∀l' i',(st1.upd lv ox (.arr 1 (ver+1) (out.map Zj++[.int .u64 o]))).get l' i'=if l'=lv/\i'=ox then some (.arr 1 (ver+1) (out.map Zj++[.int .u64 o])) else st1.get l' i':=fun l' i'=>St.get_upd kb rfl
    have kc:(st1.upd lv ox (.arr 1 (ver+1) (out.map Zj++[.int .u64 o]))).get lv ob=some (.arr 1 0 [.ref lv ox ver 0 out.length]):=by rw[q2,if_neg (fun q=>hs.n3 q.2.symm)];exact ka
    have hw2:=St.wr_upd (b:=.arr 1 (ver+1) (out.map Zj++[.int .u64 o])) (ix:=ox) hw1 hw1;have hAl2:A'.length=A2.length:=by rw[hA',hA2];simp[St.upd_A]
    rw[hAl2]at hkey ⊢;generalize st1.upd lv ox (.arr 1 (ver+1) (out.map Zj++[.int .u64 o]))=st2 at *;refine Cb hA2 Y Y hw2 kc Y (Q2 _ (Nat.lt_succ_self _)) Y (fun A3 hA3=>?_);have hAl3:A2.length=A3.length:=by rw[hA2,hA3];simp[St.upd_A]
    rw[hAl3]at hkey ⊢;have hk:=hkey A3 (by rw[hA3];simp) (by simp) _ (.inl rfl);repeat'(first|exact hk|refine Jg Y ?_|refine ZO ?_)
theorem Zug{t:Tr}(hp:t.Pos)(hsz:t.siz<4294967296)(st:St):S Tb LK [t.av] st=some (.lit ((t.kwT []).map Zj),st):=by
 refine Zv Y (fun A hA=>?_)
 have hW:∀L,L=[.arr 7 0 [t.av],.arr 1 0 [],.arr 1 0 [.ref A.length 1 0 0 0],.map [],.arr 1 0 [.map A.length 3],.arr 1 0 [.func (.func Yy) [] [.ptr A.length 4 0 0 0,.ptr A.length 2 0 0 0,.ptr A.length 5 0 0 0]]] ->
  Sp Tb Yy [t.av,.ptr A.length 4 0 0 0,.ptr A.length 2 0 0 0,.ptr A.length 5 0 0 0] ⟨A,false,L⟩ fun v st'=>v=.tup []/\∃ver',st'=JR ⟨A,false,L⟩ A.length 3 2 1 ver' (t.kwT []):=by
  rintro L rfl;refine ZtM t hp (ver:=0) (mb:=4) (mx:=3) (ob:=2) (ox:=1) (wb:=5) ⟨by simp[St.wr],by rw[St.get_cur];rfl,by rw[St.get_cur];rfl,by rw[St.get_cur];rfl,by rw[St.get_cur];rfl,by rw[St.get_cur];rfl,by decide,by decide,by decide,by decide,by decide⟩ (by simp;omega)
 repeat'(first|refine ruS Y ?_|refine isS Y ?_|refine ZE Y Y Y Y ?_|refine ZO ?_|refine X3 Y Y ?_|refine ZX Y Y Y ?_|refine EP Y ?_|refine DH Y ?_|refine ZE Y Y Y (Zb _) ?_|refine Zi Y (Zn _) (Z1 _) ?_|refine Zg Y Y Y (Zns _ (Nat.lt_succ_self _)) Y Y ?_|refine Zg Y Y Y (IK _ (Nat.lt_succ_self _)) Y Y ?_)
 refine HP Y Y (wk4 _ _ _ _ Y Y Y) (hW _ Y) ?_;rintro v st' ⟨rfl,v2,rfl⟩;have hpc:∀b0 b1 b2 b3 b4 b5 w,JR ⟨A,false,[b0,b1,b2,b3,b4,b5]⟩ A.length 3 2 1 v2 w=⟨A,false,[b0,.arr 1 v2 (w.map Zj),.arr 1 0 [.ref A.length 1 v2 0 w.length],.map (YG w),b4,b5]⟩:=by
  intro b0 b1 b2 b3 b4 b5 w;simp[JR,St.upd]
 rw[hpc];generalize t.kwT []=w at *;repeat'(first|refine ruS Y ?_|refine isS Y ?_|refine ZE Y Y Y Y ?_|refine rkS Y ?_)
 refine B5 (es:=w.map Zj) hA (by simp) Y Y (by simp) (by intro v hv;obtain⟨x,_,rfl⟩:=List.mem_map.1 hv;rfl) ?_;rfl
def wrV(t:Tr)(r:AR):AR × Ro × List Nat:=if t.old=0/\t.h=0/\t.text=[] then (r,.zero,[]) else t.wr r
theorem IT{N:ZC}(hv:Val N t)(r:AR):wrV t r=t.wr r:=by
 unfold wrV;cases hv with
 | kept h0=>rw[if_neg];simp[Tr.old,h0]
 | leaf h1=>rw[if_neg];rintro⟨_,_,q⟩;simp only[Tr.text]at q;rw[q]at h1;simp at h1
 | inner=>rw[if_neg];simp[Tr.h]
theorem OE(h:IsEmpty t)(r:AR):wrV t r=(r,.zero,[]):=by
 unfold wrV;rw[if_pos ⟨h.old,h.h,h.text⟩]
theorem Val.not_empty{N:ZC}(hv:Val N t):¬ IsEmpty t:=fun h=>by
 have:=hv.pos.2;have:=h.bytes;omega
theorem PI.run{r:AR}(ho:AROk r)(hg:GoodN r.nodes)(hv:VE r.nodes t)(hb:t.bytes<=65536)(hn:nw t<=r.n){its:List It}{ρ:Nat->Ro}(h:PI t its rx ρ):
 ∃ρ',RunOk its r ρ (wrV t r).1 ρ' (wrV t r).2.2/\ρ' rx=(wrV t r).2.1:=by
 rcases h with⟨h1,rfl,h2⟩|⟨⟨M,hM⟩,R,h1,h2,h3⟩
 ·rw[OE h1];exact⟨ρ,.nil,h2⟩
 ·rcases hv with hv|hv
  ·exact absurd hv hM.not_empty
  ·rw[IT hv]
   rw[CG hv]at hn;obtain⟨ρ',a1,a2,_⟩:=exec_ok hg hv hb r ho hg (.refl _) hn rx its R ρ h1 h2 h3;exact⟨ρ',a1,a2⟩
theorem Uf{L:List Blk}{b:Nat}{r:AR}(hA:HasR ⟨A,false,L⟩ la b r)(hN:r.n<=r.blk.length)(h16:r.states.length<=16384)(h6:r.n<65536)(hv:VE r.nodes t)(hb:t.bytes<=65536)(hn:nw t<=r.n):
 ∃L2 tx ver cs its F keys rx ρ,S Tb Xo [.ptr la (b+5) 0 0 0,t.av] ⟨A,false,L⟩=some (.tup [.ptr A.length (L.length+1) 0 0 0,.int .i64 0],⟨A,false,L2⟩)/\Begun A L L2 la b t tx ver cs its F keys rx ρ:=by
 rcases hv with hv|hv
 ·exact Zjh hA hN h16 h6 hv
 ·rw[CG hv]at hn
  exact Znq (N:=r.nodes) hA hN h16 h6 hv hb hn
theorem ZtN{L:List Blk}{ro:Ro}{e:Int}(hg:L[ix]?=some (.arr 1 ver (l.map Zj)))(hn:n=l.length):
 ZI Zs A.length ⟨A,false,L⟩ (.tup [ro.av,.ref A.length ix ver 0 n,.int .i64 e])=some (.tup [ro.av,.lit (l.map Zj),.int .i64 e],⟨A,false,L.set ix .dead⟩):=by
 subst hn;have h1:=HX (n:=4) (A:=A) (s:=0) (m:=l.length) hg (by simp) (es':=l.map Zj) (by
  rw[List.drop_zero,List.take_of_length_le (by simp)];exact N6 (k:=.u64) (fun n:Nat=>(n:Int)) 3 0 _ l)
 show (mapSt (ZI 5 A.length) _ _).bind Br=_
 have h2:ZI 5 A.length ⟨A,false,L⟩ ro.av=some (ro.av,⟨A,false,L⟩):=rfl;simp only[mapSt,h2,oS,h1];rfl
theorem RunOk.len{its:List It}{r:AR}{ρ ρ':Nat->Ro}{hs:List Nat}(h:RunOk its r ρ r' ρ' hs):hs.length=its.length:=by
 induction h with
 | nil=>rfl
 | cons hn hx hk h ih=>simp[ih]
theorem RunOk.inv{its:List It}{r:AR}{ρ ρ':Nat->Ro}(h:RunOk (it::its) r ρ r' ρ' l):
 ∃hs,l=r.next::hs/\0<r.n/\NdOk (Qx ρ it.c)/\El r.nodes (Qx ρ it.c)/\RunOk its (r.add (Qx ρ it.c)) (Av ρ it.rx r.next) r' ρ' hs:=by
 cases h with
 | cons hn hx hk h=>exact⟨_,rfl,hn,hx,hk,h⟩
theorem RunOk.nil_inv{r:AR}{ρ ρ':Nat->Ro}(h:RunOk [] r ρ r' ρ' l):l=[]/\r'=r/\ρ'=ρ:=by
 cases h;exact⟨rfl,rfl,rfl⟩
theorem ZqA{b:Nat}(hl:la<=st.A.length)(rj r2:AR)(hn:n=st.A.length+1)(L:List Blk)(ip tx ver len rx k:Nat)(ro:Ro)(j:Nat):
 CF ⟨(QG st la b rj).ps,false,L⟩ n ip tx ver la b len rx r2 k ro j=⟨(QG st la b r2).ps,false,(L.set k (.arr 5 0 [ro.av])).set ip (.arr 3 0 [.agg [.ptr la (b+5) 0 0 0,.ref n tx ver (j+1) (len-j-1),.ptr n rx 0 0 0]])⟩:=by
 have e1:QG ⟨(QG st la b rj).ps,false,L⟩ la b r2=⟨(QG st la b r2).ps,false,L⟩:=by
  rw[Cm rfl (by rw[CB];exact hl),N5]
 have e2:((QG st la b r2).ps).length=n:=by rw[hn];simp[CB]
 rw[CF,e1];unfold St.upd;simp only[e2,if_true]
theorem PenS.frm{L L':List Blk}{tx b:Nat}{its:List It}{F:List (Nat × Blk)}{keys:List Nat}{ρ:Nat->Ro}(h:PenS ⟨A,false,L⟩ n ip tx ver la b cls its F keys rx ρ j)(hn:n=A.length)
 (hg:∀i,i=ip\/(cls≠[]/\i=tx)\/i∈keys\/(∃p∈F,i=p.1)->L'[i]?=L[i]?):PenS ⟨A,false,L'⟩ n ip tx ver la b cls its F keys rx ρ j:=by
 subst hn;obtain⟨td,h1,h2⟩:=h.pen;have hget:∀i,(i=ip\/(cls≠[]/\i=tx)\/i∈keys\/(∃p∈F,i=p.1))->St.get ⟨A,false,L'⟩ A.length i=St.get ⟨A,false,L⟩ A.length i:=fun i hi=>by rw[St.get_cur,St.get_cur,hg i hi]
 refine⟨by simp[St.wr],⟨td,by rw[hget _ (.inl rfl)];exact h1,?_⟩,h.cl,fun p hp=>by rw[hget _ (.inr (.inr (.inr ⟨p,hp,rfl⟩)))];exact h.fx p hp,fun k hk=>by rw[hget _ (.inr (.inr (.inl hk)))];exact h.rts k hk,h.key,h.rk,h.s1,h.s2,h.s3,h.ar,h.len,h.jl⟩;rcases h2 with q|⟨hc,q1,q2⟩
 ·exact .inl q
 ·exact .inr ⟨hc,q1,by rw[hget _ (.inr (.inl ⟨hc,rfl⟩))];exact q2⟩
theorem Ug{L:List Blk}{x:Ex}{c4 c5 c6 j4 w4 v4:Nat}{ro:Ro}{z:Int}(hA:A=st.A++[(st.ro,st.L)])(hx:x=.norm\/x=.ret)(h4:JZ e c4=some (.ptr A.length j4 v4 0 0))(hg4:L[j4]?=some (.arr w4 v4 [ro.av]))
 (h5:JZ e c5=some (.ref A.length ix ver 0 n)) (hg5:L[ix]?=some (.arr 1 ver (l.map Zj))) (hn:n=l.length) (h6:JZ e c6=some (.int .i64 z)):QT false [.c c4 true 5,.s c5,.s c6] (x,e,⟨A,false,L⟩)=some (.tup [ro.av,.lit (l.map Zj),.int .i64 z],st):=by
 refine Bi (v:=.tup [ro.av,.ref A.length ix ver 0 n,.int .i64 z]) hA hx ?_ (ZtN hg5 hn) Y;have h1:AH ⟨A,false,L⟩ e (.c c4 true 5)=some ro.av:=by
  simp only[AH,Z0 h4,loadP,St.get_cur,hg4,vis,Ax,if_true,List.getElem?_cons_zero,oS];rfl
 simp only[QE,AM,h1,oS];simp only[AH,Z0 h5,Z0 h6,oS,Option.map_some,BE]
theorem OF{b:Nat}{r:AR}(hA:Has st la b r)(ho:AROk r)(hg:GoodN r.nodes)(hv:VE r.nodes t)(hb:t.bytes<=65536)(hn:nw t<=r.n):
 S Tb Xm [.ptr la (b+5) 0 0 0,t.av] st=some (.tup [(wrV t r).2.1.av,.lit ((wrV t r).2.2.map Zj),.int .i64 0],QG st la b (wrV t r).1):=by
 refine AS Y (fun A hA'=>?_);obtain⟨LB,hLB⟩:∃LB:List Blk,LB=[.arr 7 0 [t.av],.arr 5 0 [Ro.zero.av],.arr 1 0 []]:=⟨_,rfl⟩;have hle:=hA.le;have hla:la<A.length:=by rw[hA'];simp;omega
 have h3:LB.length=3:=by rw[hLB];rfl
 obtain⟨L2,tx,ver,cs,its,F,keys,rx,ρ,hS,hB⟩:=Uf (L:=LB) (hA.push hA').r ho.nb ho.n16 (by have:=ho.nn;have:=ho.n16;omega) hv hb hn;obtain⟨ρ',hrun,hro⟩:=hB.pi.run ho hg hv hb hn;generalize (wrV t r).1=r' at *;generalize (wrV t r).2.2=hs at *;generalize (wrV t r).2.1=ro at *;have hcl:=hB.ps.cl.len;have hk5:∀k∈keys,5<=k:=fun k hk=>by have:=hB.klo k hk;omega
 have g1:L2[1]?=some (.arr 5 0 [Ro.zero.av]):=by rw[hB.old 1 (by omega),hLB];rfl
 have g2:L2[2]?=some (.arr 1 0 (([]:List Nat).map Zj)):=by rw[hB.old 2 (by omega),hLB];rfl
 have hps:=hB.ps;rw[h3]at hS hps;rw[hLB]at hS;repeat'(first|refine ruS Y ?_|refine isS Y ?_|refine ZO ?_|refine cm0 Y Y Y ?_ ?_|(intro _;try omega)|refine ZX Y Y Y ?_|refine Xk Y ?_|refine ZE Y Y Y (Zb _) ?_|refine Zi Y (Zn _) (Z1 _) ?_|refine zA0 Y Y (hS) ?_)
 all_goals try contradiction
 have hAn:A.length=st.A.length+1:=by rw[hA'];simp
 have hhl:=hrun.len;refine Ze (α:=Bool × Nat × AR × (Nat->Ro) × List Blk) (fun p=>match p.1 with
  | true=>[(4,.ptr A.length 1 0 0 0),(5,.ref A.length 2 p.2.1 0 p.2.1),(6,.int .i64 0),(7,.ptr A.length 4 0 0 0),(18,.bool false)]
  | false=>[(4,.ptr A.length 1 0 0 0),(5,.ref A.length 2 p.2.1 0 p.2.1),(7,.ptr A.length 4 0 0 0)])
  (fun p=>⟨(QG st la b p.2.2.1).ps,false,p.2.2.2.2⟩)
  (fun p=>PenS ⟨(QG st la b p.2.2.1).ps,false,p.2.2.2.2⟩ A.length 4 tx ver la b cs its F keys rx p.2.2.2.1 p.2.1/\AROk p.2.2.1/\RunOk (its.drop p.2.1) p.2.2.1 p.2.2.2.1 r' ρ' (hs.drop p.2.1)/\p.2.1<=its.length/\p.2.2.2.2[1]?=some (.arr 5 0 [Ro.zero.av])/\p.2.2.2.2[2]?=some (.arr 1 p.2.1 ((hs.take p.2.1).map Zj)))
  (fun p=>its.length-p.2.1) (true,0,r,ρ,L2) rfl ?_ ?_ ?_
 ·simp only[hA.same,<- hA']
 ·simp only[hA.same,<- hA']
  exact⟨hps,ho,hrun,Nat.zero_le _,g1,g2⟩
 rintro⟨fst,j,rj,ρj,Lj⟩ ⟨q1,q2,q3,q4,q5,q6⟩;simp only at q1 q2 q3 q4 q5 q6;have hHj:Has ⟨(QG st la b rj).ps,false,Lj⟩ la b rj:=(hA.put rj).push rfl;obtain⟨td,t1,t2⟩:=q1.pen;have hAl:A.length=(QG st la b rj).ps.length:=by rw[hAn];simp[CB]
 rcases Nat.lt_or_ge j its.length with hlt|hge
 ·obtain⟨it,hit⟩:∃it,its[j]?=some it:=⟨its[j]'hlt,by simp[hlt]⟩
  have hd:its.drop j=it::its.drop (j+1):=by
   rw[List.drop_eq_getElem_cons hlt];rw[jE hlt]at hit;rw[Option.some.inj hit]
  rw[hd]at q3;obtain⟨hs2,e1,hn1,hx1,hk1,hr1⟩:=q3.inv;have hdj:hs[j]?=some rj.next:=by
   have:=List.getElem?_drop (xs:=hs) (i:=j) (j:=0);rw[e1]at this;simpa using this.symm
  have hd2:hs.drop (j+1)=hs2:=by
   rw[<- List.drop_drop,e1];rfl
  obtain⟨p1,p2,p3⟩:=q1.step hHj q2 hn1 hit hx1 hk1;rw[ZqA hle rj _ hAn]at p1 p2;have hjc:j<cs.length:=by rw[hcl];exact hlt
  have hne:cs≠[]:=fun q=>by rw[q]at hjc;simp at hjc
  rcases t2 with⟨w,_⟩|⟨_,rfl,t3⟩
  ·exact absurd w hne
  obtain⟨k1,_⟩:=q1.key it (jM hit);have hk5':=hk5 _ k1;have hl4:Lj[4]?=some (.arr 3 0 [.agg [.ptr la (b+5) 0 0 0,.ref A.length tx ver j (cs.length-j),.ptr A.length rx 0 0 0]]):=by
   rw[hAl]at t1;rw[St.get_cur]at t1;rw[hAl];exact (Bm t1).1
  obtain⟨r2,hr2⟩:∃r2,r2=rj.add (Qx ρj it.c):=⟨_,rfl⟩;rw[<- hr2]at p1 p2 hr1;have ho2:AROk r2:=by rw[hr2];exact q2.add hn1 _
  have hAl2:A.length=(QG st la b r2).ps.length:=by rw[hAn];simp[CB]
  obtain⟨L3,hL3⟩:∃L3,L3=(Lj.set it.rx (.arr 5 0 [((ρj it.rx).wr rj.next).av])).set 4 (.arr 3 0 [.agg [.ptr la (b+5) 0 0 0,.ref A.length tx ver (j+1) (cs.length-j-1),.ptr A.length rx 0 0 0]]):=⟨_,rfl⟩;rw[<- hL3]at p1 p2;have h31:L3[1]?=some (.arr 5 0 [Ro.zero.av]):=by rw[hL3,jS (by omega),jS (by omega)];exact q5
  have h32:L3[2]?=some (.arr 1 j ((hs.take j).map Zj)):=by rw[hL3,jS (by omega),jS (by omega)];exact q6
  have hj2:j=((hs.take j).map Zj).length:=by simp;omega
  have hj3:∀x:AV,((hs.take j).map Zj).length+[x].length<4294967296:=fun x=>by have:=q1.len;simp;omega
  have hinv:∀L4,L4=L3.set 2 (.arr 1 (j+1) ((hs.take j).map Zj++[.int .u64 rj.next]))->PenS ⟨(QG st la b r2).ps,false,L4⟩ A.length 4 tx ver la b cs its F keys rx (Av ρj it.rx rj.next) (j+1)/\AROk r2/\RunOk (its.drop (j+1)) r2 (Av ρj it.rx rj.next) r' ρ' (hs.drop (j+1))/\j+1<=its.length/\L4[1]?=some (.arr 5 0 [Ro.zero.av])/\L4[2]?=some (.arr 1 (j+1) ((hs.take (j+1)).map Zj)):=by
   rintro L4 rfl;refine⟨?_,ho2,by rw[hd2];exact hr1,hlt,by rw[jS (by omega)];exact h31,?_⟩
   ·refine p2.frm hAl2 (fun i hi=>jS ?_)
    rcases hi with rfl|⟨hc,rfl⟩|q|⟨p,hp,rfl⟩
    ·omega
    ·have:=hB.tlo hc;omega
    ·have:=hk5 i q;omega
    ·have:=hB.flo p hp;omega
   ·rw[List.getElem?_set_self (List.getElem?_eq_some_iff.1 h32).1,ZF hdj,List.map_append];rfl
  obtain⟨A2,hA2⟩:∃A2,A2=(QG st la b r2).ps:=⟨_,rfl⟩;obtain⟨A1,hA1⟩:∃A1,A1=(QG st la b rj).ps:=⟨_,rfl⟩;rw[<- hA1]at p1 hAl ⊢;rw[<- hA2]at p1 hAl2;have hA12:A1.length=A2.length:=hAl.symm.trans hAl2;rw[hAl]at hl4 p1 hinv ⊢;cases fst;all_goals simp only
  all_goals repeat'(first|refine ZA Y Y Y p1 ?_|refine ruS Y ?_|refine isS Y ?_|refine ZO ?_|refine Z6 Y ?_|refine cm0 Y Y Y ?_ ?_|(intro _;try omega)|refine Z7 Y Y Y Y ?_|refine ZE Y hl4 Y Y ?_)
  all_goals try first|contradiction|omega
  all_goals rw[hA12]
  all_goals repeat'(first|refine BL Y Y h32 hj2 Y Y (hj3 _) (by decide) ?_|refine isS Y ?_|refine rkS Y ?_)
  all_goals rw[hA12,hA2]at hinv
  all_goals rw[hA2]
  all_goals exact⟨(false,j+1,r2,Av ρj it.rx rj.next,_),⟨rfl,rfl⟩,hinv _ Y,by simp only;omega⟩
 ·obtain rfl:j=its.length:=by omega
  rw[List.drop_length,<- hhl,List.drop_length]at q3;obtain⟨_,rfl,rfl⟩:=q3.nil_inv;rw[<- hhl,List.take_length]at q6;have hRt:=Zue q1 hcl.symm;rw[hro]at hRt;obtain⟨A1,hA1⟩:∃A1,A1=(QG st la b r').ps:=⟨_,rfl⟩;rw[<- hA1]at hRt hAl ⊢;have hl4:∃w,Lj[4]?=some (.arr 3 0 [.agg [.ptr la (b+5) 0 0 0,td,w]])/\(td=.nils\/∃v,td=.ref A.length tx v its.length 0):=by
   rw[hAl,hA1,St.get_cur]at t1;refine⟨_,(Bm t1).1,?_⟩;rcases t2 with⟨_,w⟩|⟨_,w,_⟩
   ·exact .inl w
   ·refine .inr ⟨ver,?_⟩
    rw[w,hcl,Nat.sub_self]
  obtain⟨w4,hl4,htd⟩:=hl4;rw[<- hhl]at *;have hl1:=(List.getElem?_eq_some_iff.1 q5).1;rw[hAl]at hRt htd ⊢;rcases htd with rfl|⟨v,rfl⟩;all_goals cases fst
  all_goals simp only
  all_goals repeat'(first|refine ZA Y Y Y hRt ?_|refine ruS Y ?_|refine isS Y ?_|refine rkS Y ?_|refine Z6 Y ?_|refine J2 Y ?_|refine cm0 Y Y Y ?_ ?_|(intro _;try omega)|refine ZE Y hl4 Y Y ?_)
  all_goals try omega
  all_goals refine Qn q5 Y Y Y Y Y ?_
  all_goals repeat'(first|refine ruS Y ?_|refine isS Y ?_|refine ZO ?_|refine ZE Y (List.getElem?_set_self hl1) Y Y ?_)
  all_goals refine Qn (List.getElem?_set_self hl1) Y Y Y Y Y ?_
  all_goals rw[List.set_set]
  all_goals repeat'(first|refine isS Y ?_|refine rkS Y ?_|refine Xz ?_)
  all_goals exact Ug (ro:=ro) hA1 (.inr Y) Y (List.getElem?_set_self hl1) Y ((jS (by omega)).trans q6) (by simp) Y
end Go.Q15
namespace Go.QAbs
variable {a cv:AV}{ro:Bool}{e:Env}{f:FuncId}{A:List (Bool × List Blk)}{args caps cls cs:LV}{l:List Nat}{s:B8}{i ip ix j la mx n ob ox rx ver wb:Nat}{st:St}
abbrev Cut1:=FuncId->Option (LV->St->OS)
def OG(T:Tab)(sh:Cut1):Prop:=∀f o args st r,sh f=some o->o args st=some r->S T f args st=some r
def TLe(T T':Tab):Prop:=∀f x,T f=some x->T' f=some x
theorem Uh{T T':Tab}(h:TLe T T'):∀n,Le (QP T n) (QP T' n)
 | 0=>fun _ _ _ _ q=>by simp[QP]at q
 | n+1=>fun f _ _ _ q=>QJ (fun x q=>h f x q) (fun x _ q=>by
  cases x with
  | pf pf=>exact Ow (Uh h n) (Gh (Nat.le_refl n)) q
  | base o=>exact q) q
theorem En{T T':Tab}(h:TLe T T'):Le (S T) (S T'):=fun f a st r q=>by
 obtain⟨n,hn⟩:=S_iff.1 q;exact S_iff.2 ⟨n,Uh h n _ _ _ _ hn⟩
theorem Ui:∀(A:List (Bool × List Blk)) (r:Bool × List Blk),pop (A++[r])=some (A,r)
 | [],r=>rfl
 | [a],r=>rfl
 | a::b::A,r=>by
  have:=Ui (b::A) r;rw[lC,lC,pop];rw[lC]at this;rw[this];rfl
theorem Uj(v:AV)(st:St)(ro:Bool)(L:List Blk):Je (v,⟨st.ps,ro,L⟩)=some (v,st):=by
 simp only[Je,Ui,oS,Ar]
section
variable {k:List Fr}{Q:JD}{e:Env}{st:St}{keep:List Nat}{is:List PI}{d:Nat}{T:Tab}
theorem ZqD{st':St}{f:Opd}{args:List Opd}{lv:Nat}{vs ws:LV}{v:AV}(hf:ZL e f=some (.func (.yield lv) [] cs))(ha:BH e args=some vs)(hw:ZS (vs++cs)=ws)(hc:S T (yB+lv) ws st=some (v,st'))
 (h:Is (S T) is keep k Q ((d,v)::e) st'):Is (S T) (⟨some d,none,false,.call .norm f args⟩::is) keep k Q e st:=by
 refine Zm (od:=some d) (v:=v) (st':=st') ?_ h;simp only[ZW,ZB hf,DG ha,AZ,Q5,hw,hc]
theorem OH{nt:Nat}{rg:Rng}{st':St}(hl:args.length=rg.ps.length+nt)
 (h:∀A,A=st.ps->Ru (S T) rg.assign [] (fun x e s=>x=.norm/\Ru (S T) rg.body [] (fun x e s=>x=.norm/\s.A=st'.ps) e s) (Bz rg.ps args (QB 0 (args.drop rg.ps.length))) ⟨A,false,[]⟩):Ao (S T) itS nt rg args st=some (.bool true,st'):=by
 obtain⟨x,e1,s1,h1,h2⟩:=(h _ rfl).h;obtain⟨rfl,⟨x,e2,s2,h3,h4⟩⟩:=h2;obtain⟨rfl,h5⟩:=h4;unfold Ao;rw[if_pos hl];have:st.push=⟨st.ps,false,[]⟩:=rfl;rw[this,h1,oS];simp only[EF,h3,oS,FV];obtain⟨A,ro,L⟩:=s2;simp only at h5;subst h5;exact Uj _ _ _ _
theorem OI{OT:Nat->Orc}{nt:Nat}{rg:Rng}{g:FuncId}{first cap:LV}{v:AV}{L:List Blk}{st2:St}(hg:ZL e rg.g=some (.func (.func g) first cap))(hy:g<yB)
 (hc:OT (st.A.length+1) g (ZS (first++[.func (.yield (st.A.length+1)) [] (BS nt e)]++cap)) ⟨st.ps,false,[]⟩=some (v,⟨st2.ps,ro,L⟩)):BG OT nt rg e st=some (.norm,e,st2):=by
 unfold BG;rw[ZB hg];simp only[if_pos hy];have:st.push=⟨st.ps,false,[]⟩:=rfl;rw[this,hc,oS,EG,Uj,oS]
theorem OJ{T0:Tab}{rf:RF}{r:AV × St}(hT:T f=some (.base (rfO T0 rf)))
 (h:∀A,A=st.ps->Ru (S T0) rf.pre [] (fun x e s=>(x=.ret/\QT false rf.res (.ret,e,s)=some r)\/(x=.norm/\∃s2,BG (fun lv=>S (A5 T0 lv (Ao (S T0) itS rf.nt rf.rng))) rf.nt rf.rng e s=some (.norm,e,s2)/\Ru (S T0) rf.post [] (fun x e s=>QT false rf.res (x,e,s)=some r) e s2)) (QB 0 args) ⟨A,false,[]⟩):S T f args st=some r:=by
 refine FH (o:=rfO T0 rf) hT ?_;obtain⟨x,e1,s1,h1,h2⟩:=(h _ rfl).h;unfold rfO rfG Bg;have:st.push=⟨st.ps,false,[]⟩:=rfl;rw[this,h1,oS];rcases h2 with⟨rfl,h3⟩|⟨rfl,s2,h3,⟨x,e3,s3,h5,h6⟩⟩
 ·simp only[JB,oS];exact h3
 ·simp only[JB,h3,oS,h5];exact h6
end
theorem OK{T:Tab}(hT:∀f x,T f=some x->f<yB)(lv:Nat)(o:LV->St->OS):TLe T (A5 T lv o):=fun f x hx=>by
 unfold A5;rw[if_neg]
 ·exact hx
 ·intro q;exact HE (hT f x hx) q
theorem OL(T:Tab)(lv:Nat)(o:LV->St->OS)(args:LV)(st:St){r:AV × St}(h:o args st=some r):S (A5 T lv o) (yB+lv) args st=some r :=
 FH (o:=o) (by unfold A5;rw[if_pos rfl]) h
end Go.QAbs
namespace Go.Q15
open Go Go.QAbs
variable {r':AR}{a cv:AV}{ro:Bool}{e:Env}{f:FuncId}{it:It}{c:ItC}{A:List (Bool × List Blk)}{args caps cls cs:LV}{l:List Nat}{s:B8}{i ip ix j la mx n ob ox rx ver wb:Nat}{x:Nd}{st:St}{t:Tr}
def Yb(N:ZC)(o:Nat):Nd:=(lk N o).getD ⟨0,[],none⟩
theorem QS{N:ZC}{o:Nat}(h:lk N o=some x):Yb N o=x:=by unfold Yb;rw[h];rfl
def QM(N:ZC):Nat->Nat->List Nat
 | 0,o=>[o]
 | n+1,o=>o::(Yb N o).ks.flatMap fun k=>QM N n k.at_
def Co(x:Nd):AV:=.agg [.int .i64 x.h,.str x.text,.lit (x.ks.map Kid.av),.int .i64 0]
theorem F7{s:St}{l:Nat}{b:Blk}(h:s.get l i=some b)(more:List (Bool × List Blk))(ro:Bool)(L:List Blk):St.get ⟨s.ps++more,ro,L⟩ l i=some b:=by
 have hl:=St.get_le h;have h1:=ZD (A:=s.ps) rfl (ro:=ro) (L:=L) h;unfold St.get at h1 ⊢;have e1:l≠s.ps.length:=by simp;omega
 have e2:l≠(s.ps++more).length:=by simp;omega
 simp only[if_neg e1,if_neg e2]at h1 ⊢;rw[jL (by simp;omega)];exact h1
theorem Rd.more{s:St}{lv:Nat}{N:ZC}(h:Rd s lv ix N)(more:List (Bool × List Blk))(ro:Bool)(L:List Blk):Rd ⟨s.ps++more,ro,L⟩ lv ix N:=by
 obtain⟨a0,a1,im,a3,a4,a5,h1,h2⟩:=h;exact⟨a0,a1,im,a3,a4,a5,F7 h1 _ _ _,F7 h2 _ _ _⟩
theorem F8{N:ZC}{h:Nat}(hx:lk N h=some x)(hok:NdOk x)(hh:x.h=n):QM N n h=h::x.ks.flatMap fun k=>QM N (n-1) k.at_:=by
 cases n with
 | zero =>
  have:x.ks=[]:=by
   rcases hok with q|⟨m,ks,q⟩
   ·exact q.ks
   ·have:=congrArg Nd.h q.eq;simp only at this;omega
  rw[this];rfl
 | succ n=>rw[QM,QS hx];rfl
theorem ZqE{N:ZC}(hN:GoodN N):∀(n h:Nat) (x:Nd),lk N h=some x->x.h=n->3*(QM N n h).length+1<=4 ^ (n+1):=by
 intro n;induction n with
 | zero=>intro h x hx hh;simp[QM]
 | succ n ih =>
  intro h x hx hh;obtain⟨hok,hk⟩:=hN h x hx;rw[QM,QS hx,List.length_cons];have h6:4 ^ (n+1+1)=4*4 ^ (n+1):=by rw[Nat.pow_succ,Nat.mul_comm]
  rw[h6];clear h6;have hP1:1<=4 ^ (n+1):=Nat.pow_pos (by decide);generalize 4 ^ (n+1)=P at *;have key:∀l:List Kid,(∀k∈l,k∈x.ks)->3*(l.flatMap fun k=>QM N n k.at_).length+l.length<=l.length*P:=by
   intro l;induction l with
   | nil=>intro _;simp
   | cons k l ih2 =>
    intro hm;obtain⟨_,y,y1,y2,_⟩:=hk k (hm k (by simp));have h1:=ih k.at_ y y1 (by omega);have h2:=ih2 fun q hq=>hm q (by simp[hq])
    rw[List.flatMap_cons,lL,List.length_cons,Nat.add_mul,Nat.one_mul];omega
  have h1:=key x.ks fun _ h=>h
  have h4:=hok.len;have h5:x.ks.length*P<=4*P:=Nat.mul_le_mul_right _ h4;rcases hok with q|⟨m,ks,q⟩
  ·have:=q.h;omega
  ·have e:=q.eq
   have h7:=q.lo;subst e;simp only[Nd.ks,Option.getD_some]at h1 h4 h5 ⊢;have h8:(4-ks.length)*1<=(4-ks.length)*P:=Nat.mul_le_mul_left _ hP1;have h9:ks.length*P+(4-ks.length)*P=4*P:=by rw[<- Nat.add_mul];congr 1;omega
   omega
structure NW(σ:List Nat->St)(lv:Nat)(caps:LV)(la b:Nat)(more:List (Bool × List Blk))(ro:Bool)(L:List Blk)(l1 i1 l2 i2 l3 i3:Nat):Prop where
 a:∀v,St.get ⟨(σ v).ps++more,ro,L⟩ l1 i1=some (.arr 1 0 [.ptr la (b+5) 0 0 0])
 y:∀v,St.get ⟨(σ v).ps++more,ro,L⟩ l2 i2=some (.arr 1 0 [.func (.yield lv) [] caps])
 w:∀v,St.get ⟨(σ v).ps++more,ro,L⟩ l3 i3=some (.arr 1 0 [.func (.func YS) [] [.ptr l1 i1 0 0 0,.ptr l2 i2 0 0 0,.ptr l3 i3 0 0 0]])
theorem NW.push{σ:List Nat->St}{lv:Nat}{b:Nat}{more:List (Bool × List Blk)}{L:List Blk}{l1 i1 l2 i2 l3 i3:Nat}(h:NW σ lv caps la b more ro L l1 i1 l2 i2 l3 i3)(L':List Blk):NW σ lv caps la b (more++[(ro,L)]) false L' l1 i1 l2 i2 l3 i3 :=
 ⟨fun v=>ZD (st:=⟨(σ v).ps++more,ro,L⟩) (by rw[<- List.append_assoc]) (h.a v),fun v=>ZD (st:=⟨(σ v).ps++more,ro,L⟩) (by rw[<- List.append_assoc]) (h.y v),fun v=>ZD (st:=⟨(σ v).ps++more,ro,L⟩) (by rw[<- List.append_assoc]) (h.w v)⟩
theorem Zuj{TY:Tab}(hT:TLe Tb TY){σ:List Nat->St}{N:ZC}(hN:GoodN N){b lv:Nat}(hcw:ZS caps=caps)(hRd:∀v,Rd (σ v) la (b+5) N)(hlen:∀v,(σ v).A.length=(σ []).A.length)
 {B:Nat} (hy:∀v h x more ro L,v.length<B->lk N h=some x->S TY (yB+lv) (.int .u64 (h:Nat)::Co x::caps) ⟨(σ v).ps++more,ro,L⟩=some (.bool true,⟨(σ (v++[h])).ps++more,ro,L⟩)) :
 ∀n h x,lk N h=some x->x.h=n->∀v more ro L l1 i1 l2 i2 l3 i3,v.length+(QM N n h).length<=B->NW σ lv caps la b more ro L l1 i1 l2 i2 l3 i3 ->
  S TY YS [.int .u64 (h:Nat),.ptr l1 i1 0 0 0,.ptr l2 i2 0 0 0,.ptr l3 i3 0 0 0] ⟨(σ v).ps++more,ro,L⟩=some (.bool true,⟨(σ (v++QM N n h)).ps++more,ro,L⟩):=by
 intro n;induction n using Nat.strongRecOn with
 | ind n ih =>
  intro h x hx hh v more ro L l1 i1 l2 i2 l3 i3 hB hw;have hok:=(hN h x hx).1;rw[F8 hx hok hh,List.length_cons]at hB;have hkids:=(hN h x hx).2;have hk4:=hok.len;refine AS (hT _ _ Y) (fun A hA=>?_);have hA2:A=(σ v).ps++(more++[(ro,L)]):=by rw[hA,List.append_assoc]
  clear hA;subst hA2;have hw2:=fun L'=>hw.push L'
  have hG:∀v' L',S TY QX [.ptr la (b+5) 0 0 0,.int .u64 h] ⟨(σ v').ps++(more++[(ro,L)]),false,L'⟩=some (.tup [.agg [.int .i64 x.h,.str x.text,.lit (x.ks.map Kid.av)],.int .i64 0],⟨(σ v').ps++(more++[(ro,L)]),false,L'⟩):=fun v' L'=>En hT _ _ _ _ (Fp ((hRd v').more _ _ _) hx hk4)
  have hY:=fun L'=>hy v h x (more++[(ro,L)]) false L' (by omega) hx
  unfold Co at hY;have hwk:ZS ([AV.int .u64 h,.agg [.int .i64 x.h,.str x.text,.lit (x.ks.map Kid.av),.int .i64 0]]++caps)=.int .u64 h::.agg [.int .i64 x.h,.str x.text,.lit (x.ks.map Kid.av),.int .i64 0]::caps:=by
   simp only[lC,lE,ZS,weak,hcw]
  repeat'(first|refine ZqD Y Y hwk (hY _) ?_|refine ruS Y ?_|refine isS Y ?_|refine ZE Y Y Y Y ?_|refine ZO ?_|refine cm0 Y Y Y ?_ ?_|(intro _;try omega)|refine Zf Y Y Y ?_|refine ZX Y Y Y ?_|refine Zg Y Y Y Y Y Y ?_|refine Zk Y ((hw2 _).a v) Y Y ?_|refine Zk Y ((hw2 _).y v) Y Y ?_|refine ZA Y Y Y (hG _ _) ?_)
  all_goals try contradiction
  have hl2:∀v v',((σ v).ps++(more++[(ro,L)])).length=((σ v').ps++(more++[(ro,L)])).length:=fun v v'=>by
   simp only[lL];rw[hlen v,hlen v'];rfl
  rw[hl2 v (v++[h])];rw[F8 hx hok hh];repeat'(first|refine isS Y ?_|refine ZE Y Y Y Y ?_|refine ZO ?_|refine Z5 Y ?_|refine Kt ?_)
  refine Ze (α:=Nat × List Blk) (fun p=>[(3,.ptr l3 i3 0 0 0),(28,.lit (x.ks.map Kid.av)),(29,.int .i64 x.ks.length),(30,.int .i64 p.1)])
   (fun p=>⟨(σ (v++h::(x.ks.take p.1).flatMap fun k=>QM N (n-1) k.at_)).ps++(more++[(ro,L)]),false,.arr 3 0 [.agg [.int .i64 x.h,.str x.text,.lit (x.ks.map Kid.av)]]::p.2⟩) (fun p=>p.1<=x.ks.length) (fun p=>x.ks.length-p.1) (0,[]) rfl rfl (Nat.zero_le _) ?_
  rintro⟨i,G⟩ hi;simp only at hi ⊢;rcases Nat.lt_or_ge i x.ks.length with hlt|hge
  ·obtain⟨kd,hk'⟩:∃k,x.ks[i]?=some k:=⟨x.ks[i]'(by omega),by simp[hlt]⟩
   obtain⟨_,y,y1,y2,y3⟩:=hkids kd (jM hk');have hk1:0<=((i:Nat):Int)/\x.ks[((i:Nat):Int).toNat]?=some kd:=⟨by omega,by rw[show ((i:Nat):Int).toNat=i by omega];exact hk'⟩
   have ihk:=fun v' L' hb=>ih y.h (by omega) kd.at_ y y1 rfl v' _ _ L' l1 i1 l2 i2 l3 i3 hb (hw2 L')
   have hfin:(v++h::(x.ks.take i).flatMap fun k=>QM N (n-1) k.at_)++QM N y.h kd.at_=v++h::(x.ks.take (i+1)).flatMap fun k=>QM N (n-1) k.at_:=by
    rw[ZF hk',List.flatMap_append,List.append_assoc,show n-1=y.h by omega];simp
   obtain⟨v1,hv1⟩:∃v1,v1=v++h::(x.ks.take i).flatMap fun k=>QM N (n-1) k.at_:=⟨_,rfl⟩
   rw[<- hv1]at hfin ⊢;have hb1:v1.length+(QM N y.h kd.at_).length<=B:=by
    rw[<- lL,hfin,lL,List.length_cons];have h1:(x.ks.flatMap fun k=>QM N (n-1) k.at_)=(x.ks.take (i+1)).flatMap (fun k=>QM N (n-1) k.at_)++(x.ks.drop (i+1)).flatMap (fun k=>QM N (n-1) k.at_):=by
     rw[<- List.flatMap_append,List.take_append_drop]
    have h2:=congrArg List.length h1;rw[lL]at h2;omega
   repeat'(first|refine QY Y Y hk1 (fun _=>rfl) ?_|refine ZA Y Y Y (ihk v1 _ hb1) ?_|refine ruS Y ?_|refine isS Y ?_|refine rkS Y ?_|refine QU Y Y Y ?_|refine Zx Y Y ?_|refine cm0 Y Y Y ?_ ?_|(intro _;try omega)|refine ZV Y Y (by omega) ?_|refine Zi Y Y Y ?_|refine Jr Y Y Y Y Y Y ?_|refine Zk Y ((hw2 _).w v1) Y Y ?_)
   refine⟨(i+1,G++[Blk.arr 4 0 [kd.av]]),⟨rfl,?_⟩,by simp only;omega,by simp only;omega⟩;rw[hfin];rfl
  ·obtain rfl:i=x.ks.length:=by omega
   rw[List.take_length];repeat'(first|refine ruS Y ?_|refine isS Y ?_|refine rkS Y ?_|refine cm0 Y Y Y ?_ ?_|(intro _;try omega))
   all_goals try omega
   refine ZQ (st:=⟨(σ _).ps++more,ro,L⟩) (by rw[<- List.append_assoc]) (.inr rfl) rfl rfl rfl rfl ?_;rfl
theorem OM:∀ {l:List (FuncId × Ent)},(l.all fun p=>decide (p.1<yB))=true->∀f x,Xt l f=some x->f<yB
 | [],_,f,x,h=>by simp[Xt]at h
 | p::l,ha,f,x,h=>by
  simp only[List.all_cons,Bool.and_eq_true,decide_eq_true_eq]at ha;simp only[Xt]at h;split at h
  ·rename_i e;rw[<- e];exact ha.1
  ·exact OM ha.2 f x h
theorem ZqF:∀f x,Tb f=some x->f<yB:=OM (l:=tl) (by decide +kernel)
def RtOk(N:ZC)(r:Ro):Prop:=r=.zero\/(r.at_≠0/\∃x,lk N r.at_=some x/\NdOk x/\x.h=r.h/\x.mea=r.m)
def ZY(N:ZC)(r:Ro):List Nat:=if r.at_=0 then [] else QM N r.h r.at_
theorem RtOk.h13{N:ZC}(hN:GoodN N){r:Ro}(hr:RtOk N r):r.h<=13:=by
 rcases hr with rfl|⟨h0,x,h1,h2,h3,h4⟩
 ·decide
 ·have hv:Val N (.keep r):=.kept h0 h1 h2 h3 h4 rfl
  have hb:(Tr.keep r).bytes=r.m.b:=by simp[Tr.keep,Tr.bytes,Tr.bytesO]
  have:=h2.mea_pos;exact hv.height hN (by rw[hb,<- h4];omega)
theorem DY{N:ZC}(hN:GoodN N){r:Ro}(hr:RtOk N r):(ZY N r).length<100000000:=by
 have h13:=hr.h13 hN;unfold ZY;split
 ·simp
 ·rename_i q
  rcases hr with rfl|⟨h0,x,h1,h2,h3,h4⟩
  ·exact absurd Y q
  ·have:=ZqE hN r.h r.at_ x h1 h3
   have h5:4 ^ (r.h+1)<=4 ^ 14:=Nat.pow_le_pow_right (by decide) (by omega);have h6:(4:Nat) ^ 14=268435456:=by decide
   omega
def Yg(r:Ro):Tr:=if r.at_=0 then .zero else .keep r
theorem IU{lv:Nat}{N:ZC}(hr:Rd st lv ix N){r:Ro}(h:RtOk N r):S Tb Yd [.ptr lv ix 0 0 0,r.av] st=some (.tup [(Yg r).av,.int .i64 0],st):=by
 unfold Yg;rcases h with rfl|⟨h0,x,h1,h2,h3,h4⟩
 ·rw[if_pos (by rfl)];exact ZnY
 ·rw[if_neg h0];exact ZuR hr h1 h2 h0 h3 h4
theorem ON{L:List Blk}{b:Nat}{r:Ro}:S Tb Fd [.ptr la (b+5) 0 0 0,r.av] ⟨A,false,L⟩=some (.func (.func Qe) [] [.ptr A.length L.length 0 0 0,.ptr A.length (L.length+1) 0 0 0],⟨A,false,L++[.arr 1 0 [.ptr la (b+5) 0 0 0],.arr 5 0 [r.av]]⟩):=by
 refine X4 Y ?_;have e0:(⟨A,false,L⟩:St)=⟨A,false,L++[]⟩:=by rw[lN]
 rw[e0];unfold Ro.av;repeat'(first|refine XM Y Y Y Y Y ?_|refine ruS Y ?_|refine isS Y ?_|refine rkS Y ?_|refine X3 Y Y ?_)
 refine (Jq (.inr Y) Y Y Y Y).trans ?_;rfl
theorem Uk{b a1 a2 a3 x1 x2 x3:Nat}(st:St)(h1:a1<b)(h2:a2<b)(h3:a3<b):ZI Zs b st (.func (.func f) [] [.ptr a1 x1 0 0 0,.ptr a2 x2 0 0 0,.ptr a3 x3 0 0 0])=some (.func (.func f) [] [.ptr a1 x1 0 0 0,.ptr a2 x2 0 0 0,.ptr a3 x3 0 0 0],st):=by
 simp only[ZI,Zs,CK,if_true,mapSt,oS,if_pos h1,if_pos h2,if_pos h3,Y3]
theorem OO{TY:Tab}(hT:TLe Tb TY){σ:List Nat->St}{N:ZC}(hN:GoodN N){b lv:Nat}(hcw:ZS caps=caps)(hRd:∀v,Rd (σ v) la (b+5) N)(hlen:∀v,(σ v).A.length=(σ []).A.length)
 {B:Nat} (hy:∀v h x more ro L,v.length<B->lk N h=some x->S TY (yB+lv) (.int .u64 (h:Nat)::Co x::caps) ⟨(σ v).ps++more,ro,L⟩=some (.bool true,⟨(σ (v++[h])).ps++more,ro,L⟩))
 {r:Ro} (hr:RtOk N r) (hB:(ZY N r).length<=B) {l1 i1 l4 i4:Nat} (ha:∀v,(σ v).get l1 i1=some (.arr 1 0 [.ptr la (b+5) 0 0 0])) (hro:∀v,(σ v).get l4 i4=some (.arr 5 0 [r.av])) :
 S TY Qe [.func (.yield lv) [] caps,.ptr l1 i1 0 0 0,.ptr l4 i4 0 0 0] ⟨(σ []).ps,false,[]⟩=some (.tup [],⟨(σ (ZY N r)).ps,false,[]⟩):=by
 refine AS (hT _ _ Y) (fun A hA=>?_);have hA0:A=(σ []).ps++[(false,[])]:=hA;have g4:∀L,St.get ⟨A,false,L⟩ l4 i4=some (.arr 5 0 [r.av]):=fun L=>by rw[hA0];exact F7 (hro []) _ _ _
 have l1l:l1<A.length+1:=by have:=St.get_le (ha []);rw[hA0];simp;omega
 unfold Ro.av at g4;have hNW:∀yv wv,yv=Blk.arr 1 0 [.func (.yield lv) [] caps]->wv=Blk.arr 1 0 [.func (.func YS) [] [.ptr l1 i1 0 0 0,.ptr A.length 0 0 0 0,.ptr A.length 1 0 0 0]]->NW σ lv caps la b [(false,[])] false [yv,wv] l1 i1 A.length 0 A.length 1:=by
  rintro yv wv rfl rfl;have hl:∀v,A.length=((σ v).ps++[(false,([]:List Blk))]).length:=fun v=>by rw[hA0];simp[hlen v]
  refine⟨fun v=>F7 (ha v) _ _ _,fun v=>?_,fun v=>?_⟩
  ·rw[hl v,St.get_cur];rfl
  ·rw[hl v,St.get_cur];rfl
 by_cases h0:r.at_=0
 ·have e:ZY N r=[]:=by unfold ZY;rw[if_pos h0]
  rw[e];repeat'(first|refine ruS Y ?_|refine isS Y ?_|refine rkS Y ?_|refine cm0 Y Y Y ?_ ?_|(intro _;try omega)|refine X3 Y Y ?_|refine ZX Y Y Y ?_|refine Zg Y Y Y (Uk _ l1l (Nat.lt_succ_self _) (Nat.lt_succ_self _)) Y Y ?_|refine Zk Y (g4 _) Y Y ?_)
  all_goals try omega
  refine ZQ hA (.inl Y) Y Y Y Y ?_;rfl
 ·have e:ZY N r=QM N r.h r.at_:=by unfold ZY;rw[if_neg h0]
  rw[e]at hB ⊢;obtain⟨x,h1,h2,h3,h4⟩:∃x,lk N r.at_=some x/\NdOk x/\x.h=r.h/\x.mea=r.m:=by
   rcases hr with rfl|q
   ·exact absurd Y h0
   ·exact q.2
  have hW:=Zuj hT hN hcw hRd hlen hy r.h r.at_ x h1 h3 [] [(false,[])] false _ l1 i1 A.length 0 A.length 1 (by simpa using hB) (hNW _ _ rfl rfl);rw[<- hA0,lE]at hW;repeat'(first|refine ZA Y Y Y hW ?_|refine ruS Y ?_|refine isS Y ?_|refine ZE Y Y Y Y ?_|refine rkS Y ?_|refine cm0 Y Y Y ?_ ?_|(intro _;try omega)|refine X3 Y Y ?_|refine ZX Y Y Y ?_|refine Zg Y Y Y (Uk _ l1l (Nat.lt_succ_self _) (Nat.lt_succ_self _)) Y Y ?_|refine Zk Y (g4 _) Y Y ?_)
  all_goals try omega
  refine ZQ (st:=⟨(σ _).ps,false,[]⟩) Y (.inl Y) Y Y Y Y ?_;rfl
noncomputable def t1:List (FuncId × Ent):=(Xn,.base (rfO Tb p_rope_Check))::tl
noncomputable def T1:Tab:=Xt t1
theorem le1:TLe Tb T1:=fun g y hg=>by
 unfold T1 t1;simp only[Xt];rw[if_neg]
 ·exact hg
 ·intro e;subst e
  have:Xt tl Xn=none:=by decide +kernel
  unfold Tb at hg;rw[this]at hg;simp at hg
theorem IV{b:Nat}{N:ZC}(hN:GoodN N)(hR:Rd st la (b+5) N){r:Ro}(hr:RtOk N r):S T1 Xn [.ptr la (b+5) 0 0 0,r.av] st=some (.int .i64 0,st):=by
 refine OJ (rf:=p_rope_Check) Y (fun A hA=>?_);have hK:=fun L=>IU (hR.push hA (ro:=false) (L:=L)) hr
 have hNd:=fun L=>ON (A:=A) (L:=L) (la:=la) (b:=b) (r:=r)
 obtain⟨LF,hLF⟩:∃LF:List Blk,LF=[.arr 5 0 [r.av],.arr 7 0 [(Yg r).av],.arr 1 0 [.int .i64 0],.arr 1 0 [.ptr la (b+5) 0 0 0],.arr 5 0 [r.av]]:=⟨_,rfl⟩
 have hseq:=fun (caps:LV) (hcw:ZS caps=caps) (o:LV->St->OS) hy=>OO (TY:=A5 Tb (A.length+1) o) (OK ZqF _ _) (σ:=fun _=>⟨A,false,LF⟩) hN (lv:=A.length+1) (caps:=caps) hcw (fun _=>hR.push hA) (fun _=>rfl) (B:=(ZY N r).length) hy hr (Nat.le_refl _) (l1:=A.length) (i1:=3) (l4:=A.length) (i4:=4) (fun _=>by rw[St.get_cur,hLF];rfl) (fun _=>by rw[St.get_cur,hLF];rfl)
 unfold Ro.av at *;repeat'(first|refine ruS Y ?_|refine isS Y ?_|refine ZE Y Y Y Y ?_|refine rkS Y ?_|refine cm0 Y Y Y ?_ ?_|(intro _;try omega)|refine ZX Y Y Y ?_|refine Zg Y Y Y Y Y Y ?_|refine Zg Y Y Y (Z9 _ _ _) (Qg _ _) Y ?_|refine zA0 Y Y (hK _) ?_|refine zA0 Y Y (hNd _) ?_)
 all_goals try contradiction
 have hS:=hseq (BS 30 [(7,.ptr A.length 2 0 0 0),(21,.func (.func Qe) [] [.ptr A.length 3 0 0 0,.ptr A.length 4 0 0 0]),(23,.any)]) rfl (Ao (S Tb) itS p_rope_Check.nt p_rope_Check.rng) (fun v h x more ro L _ hx=>OL _ _ _ _ _ (OH rfl (fun A' hA'=>by
  unfold Co;repeat'(first|refine Qv ?_|refine Jg Y ?_|refine ZX Y Y Y ?_|refine Zg Y Y Y Y Y Y ?_|refine B3 ?_)
  all_goals try omega
  refine⟨rfl,?_⟩;repeat'(first|refine ruS Y ?_|refine isS Y ?_|refine ZE Y Y Y Y ?_|refine rkS Y ?_|refine cm0 Y Y Y ?_ ?_|(intro _;try omega))
  all_goals try contradiction
  exact⟨rfl,hA'⟩)))
 rw[hLF]at hS;refine .inr ⟨rfl,_,OI (g:=Qe) Y (by decide) hS,?_⟩;repeat'(first|refine ruS Y ?_|refine isS Y ?_|refine ZE Y Y Y Y ?_|refine rkS Y ?_)
 refine ZQ hA (by simp) Y Y Y Y ?_;rfl
end Go.Q15
namespace Go.QAbs
variable {a cv:AV}{ro:Bool}{e:Env}{f:FuncId}{A:List (Bool × List Blk)}{args caps cls cs:LV}{l:List Nat}{s:B8}{i ip ix j la mx n ob ox rx ver wb:Nat}{st:St}
theorem Eo{s:St}{l:Nat}{b:Blk}(h:s.get l i=some b)(more:List (Bool × List Blk))(ro:Bool)(L:List Blk):St.get ⟨s.ps++more,ro,L⟩ l i=some b:=by
 have hl:=St.get_le h;have h1:=ZD (A:=s.ps) rfl (ro:=ro) (L:=L) h;unfold St.get at h1 ⊢;have e1:l≠s.ps.length:=by simp;omega
 have e2:l≠(s.ps++more).length:=by simp;omega
 simp only[if_neg e1,if_neg e2]at h1 ⊢;rw[jL (by simp;omega)];exact h1
theorem Ul{s:St}{lv:Nat}(hl:lv<=s.A.length)(h:s.wr lv)(more:List (Bool × List Blk))(ro:Bool)(L:List Blk):St.wr ⟨s.ps++more,ro,L⟩ lv:=by
 have h1:=Yj (A:=s.ps) rfl hl h (ro:=ro) (L:=L);unfold St.wr at h1 ⊢;have e1:lv≠s.ps.length:=by simp;omega
 have e2:lv≠(s.ps++more).length:=by simp;omega
 simp only[if_neg e1,if_neg e2]at h1 ⊢;rw[jL (by simp;omega)];exact h1
theorem Um{s:St}{lv:Nat}{b:Blk}(hl:lv<=s.A.length)(more:List (Bool × List Blk))(ro:Bool)(L:List Blk):St.upd ⟨s.ps++more,ro,L⟩ lv ix b=⟨(s.upd lv ix b).ps++more,ro,L⟩:=by
 have h1:=JE (A:=s.ps) (ro:=ro) (L:=L) rfl hl (ix:=ix) (b:=b);unfold St.upd at h1 ⊢;have e1:lv≠s.ps.length:=by simp;omega
 have e2:lv≠(s.ps++more).length:=by simp;omega
 simp only[if_neg e1,if_neg e2]at h1 ⊢;simp only[St.mk.injEq,and_true]at h1 ⊢;rw[jL (by simp;omega),List.set_append_left _ _ (by simp;omega),h1]
theorem IW:∀ {ks:List (Nat × Nat)} {s:St} {bs:List Blk} {more:List (Bool × List Blk)} {ro:Bool} {L:List Blk},(∀k∈ks,k.1<=s.A.length)->Qo ⟨s.ps++more,ro,L⟩ ks bs=⟨(Qo s ks bs).ps++more,ro,L⟩
 | [],_,bs,_,_,_,_=>by cases bs<;>rfl
 | _::_,_,[],_,_,_,_=>rfl
 | k::ks,s,b::bs,more,ro,L,hk=>by
  rw[Qo,Um (hk k (by simp)),IW (s:=s.upd k.1 k.2 b) (fun q hq=>by rw[St.upd_A];exact hk q (by simp[hq]))];rfl
theorem Cl.more{s:St}{ks:List (Nat × Nat)}{bs:List Blk}(h:Cl s ks bs)(more:List (Bool × List Blk))(ro:Bool)(L:List Blk):Cl ⟨s.ps++more,ro,L⟩ ks bs :=
 ⟨h.nd,h.len,fun k hk=>Ul (h.le k hk) (h.wr k hk) _ _ _,fun j lv ix b h1 h2=>Eo (h.get j lv ix b h1 h2) _ _ _⟩
end Go.QAbs
namespace Go.Q15
open Go Go.QAbs
variable {r':AR}{a cv:AV}{ro:Bool}{e:Env}{f:FuncId}{it:It}{c:ItC}{A:List (Bool × List Blk)}{args caps cls cs:LV}{l:List Nat}{s:B8}{i ip ix j la mx n ob ox rx ver wb:Nat}{x:Nd}{st:St}{t:Tr}
theorem Un:∀f x,T1 f=some x->f<yB:=OM (l:=t1) (by decide +kernel)
noncomputable def t3:List (FuncId × Ent):=(LG,.base (rfO T1 p_rope_Leaves))::(HY,.base (rfO T1 p_rope_Nodes))::t1
noncomputable def T3:Tab:=Xt t3
theorem IX{l:List (FuncId × Ent)}{x:Ent}(h:Xt l f=none):TLe (Xt l) (Xt ((f,x)::l)):=fun g y hg=>by
 simp only[Xt];rw[if_neg]
 ·exact hg
 ·intro e;subst e;rw[h]at hg;simp at hg
theorem le13:TLe T1 T3:=fun g y hg=>IX (l:=(HY,.base (rfO T1 p_rope_Nodes))::t1) (by decide +kernel) g y (IX (l:=t1) (by decide +kernel) g y hg)
theorem le3:TLe Tb T3:=fun g y hg=>le13 g y (le1 g y hg)
theorem up3{r:AV × St}(h:S Tb f args st=some r):S T3 f args st=some r:=En le3 _ _ _ _ h
theorem up1{r:AV × St}(h:S Tb f args st=some r):S T1 f args st=some r:=En le1 _ _ _ _ h
theorem up13{r:AV × St}(h:S T1 f args st=some r):S T3 f args st=some r:=En le13 _ _ _ _ h
def QA(N:ZC)(v:List Nat):List B8:=v.filterMap fun h=>if (Yb N h).h=0 then some (Yb N h).text else none
theorem Zem(N:ZC)(v:List Nat)(h:Nat):QA N (v++[h])=QA N v++if (Yb N h).h=0 then [(Yb N h).text] else []:=by
 unfold QA;rw[List.filterMap_append];by_cases q:(Yb N h).h=0<;>simp[q]
theorem Znu(l:List B8):Qy 1 (l.map AV.str)=true:=by
 induction l with
 | nil=>rfl
 | cons b s ih=>rw[jC,Qy,List.all_cons];exact Bool.and_eq_true_iff.2 ⟨rfl,ih⟩
theorem Znv(n b:Nat)(st:St)(l:List B8):mapSt (ZI (n+1) b) st (l.map AV.str)=some (l.map AV.str,st):=by
 induction l with
 | nil=>rfl
 | cons x s ih =>
  rw[jC,mapSt];show ((some (AV.str x,st)).bind fun r=>(mapSt (ZI (n+1) b) r.2 (s.map AV.str)).bind (Y3 r.1))=_
  rw[oS,ih];rfl
def lvL(A:List (Bool × List Blk))(la b:Nat)(r:Ro)(es:LV):List Blk:=[.arr 5 0 [r.av],.arr 1 es.length es,.arr 1 0 [.ref A.length 1 es.length 0 es.length],.arr 1 0 [.ptr la (b+5) 0 0 0],.arr 5 0 [r.av]]
def lvF(A:List (Bool × List Blk))(N:ZC)(la b:Nat)(r:Ro)(v:List Nat):St:=⟨A,false,lvL A la b r ((QA N v).map .str)⟩
theorem Zvn(A:List (Bool × List Blk))(la b:Nat)(r:Ro)(es:LV):Cl ⟨A,false,lvL A la b r es⟩ [(A.length,1),(A.length,2)] [.arr 1 es.length es,.arr 1 0 [.ref A.length 1 es.length 0 es.length]]:=by
 refine⟨by simp,rfl,fun k hk=>?_,fun j lv ix b h1 h2=>?_⟩
 ·simp only[List.mem_cons,List.not_mem_nil,or_false]at hk
  rcases hk with rfl|rfl<;>simp[St.wr]
 ·match j,h1,h2 with
  | 0,h1,h2=>obtain⟨rfl,rfl⟩:=Prod.mk.inj (Option.some.inj h1);obtain rfl:=Option.some.inj h2;exact St.get_cur ..
  | 1,h1,h2=>obtain⟨rfl,rfl⟩:=Prod.mk.inj (Option.some.inj h1);obtain rfl:=Option.some.inj h2;exact St.get_cur ..
  | n+2,h1,h2=>simp at h1
theorem Zuk(A:List (Bool × List Blk))(la b:Nat)(r:Ro)(es fs:LV):Qo ⟨A,false,lvL A la b r es⟩ [(A.length,1),(A.length,2)] [.arr 1 fs.length fs,.arr 1 0 [.ref A.length 1 fs.length 0 fs.length]]=⟨A,false,lvL A la b r fs⟩:=by
 simp[Qo,St.upd,lvL]
theorem ZqH{N:ZC}{b:Nat}{r:Ro}(hc7:∃rest,caps=.any::.any::.any::.any::.any::.any::.any::.ptr A.length 2 0 0 0::rest/\rest.length=24)(v:List Nat)(hlim:(QA N v).length<4000000000)(h:Nat)(x:Nd)(more:List (Bool × List Blk))(ro:Bool)(L:List Blk)(hx:lk N h=some x):
 Ao (S T1) itS p_rope_Leaves.nt p_rope_Leaves.rng (.int .u64 (h:Nat)::Co x::caps) ⟨(lvF A N la b r v).ps++more,ro,L⟩=some (.bool true,⟨(lvF A N la b r (v++[h])).ps++more,ro,L⟩):=by
 obtain⟨rest,rfl,hrl⟩:=hc7;have hs:=Zem N v h;have hnd:=QS hx;rw[hnd]at hs;unfold lvF;have hel:((QA N v).map AV.str).length=(QA N v).length:=List.length_map ..
 rw[hs,List.map_append];rw[<- hel]at hlim;generalize (QA N v).map AV.str=es at *;have H:=(Zvn A la b r es).more more ro L;refine OH (by simp[hrl];rfl) (fun A' hA'=>?_);rw[<- H.same]at hA';have g2:=fun L'=>H.old hA' rfl rfl (ro:=false) (L:=L') (j:=1) rfl rfl
 unfold Co;repeat'(first|refine Qv ?_|refine Jg Y ?_|refine ZX Y Y Y ?_|refine Zg Y Y Y Y Y Y ?_|refine B3 ?_)
 all_goals try omega
 all_goals refine⟨rfl,?_⟩
 all_goals repeat'(first|refine ruS Y ?_|refine isS Y ?_|refine ZE Y Y Y Y ?_|refine rkS Y ?_|refine cm0 Y Y Y ?_ ?_|(intro _;try omega)|refine Z7 Y Y Y Y ?_|refine Zk Y (g2 _) Y Y ?_)
 ·rename_i hz
  have hz':x.h=0:=by omega
  refine NZ H hA' Y Y (j:=0) Y Y Y Y Y Y (Znv 5 _ _ [x.text]) (by simp only[List.length_singleton];omega) (by decide) (fun A2 hA2 hl2=>?_);refine Cd H hA2 Y Y (j:=1) Y Y Y Y Y (Q2 _ (Nat.lt_succ_self _)) Y (fun A3 hA3 hl3=>?_);repeat'(first|refine Jg Y ?_|refine rkS Y ?_)
  refine⟨rfl,hA3.trans ?_⟩;have e:=Zuk A la b r es (es++[.str x.text]);rw[if_pos hz',jC,List.map_nil,<- e];rw[<- IW (fun k hk=>by simp only[List.mem_cons,List.not_mem_nil,or_false]at hk;rcases hk with rfl|rfl<;>exact Nat.le_refl _)];simp only[lL,List.length_singleton];rfl
 ·rename_i hz
  have hz':¬ x.h=0:=by omega
  refine⟨rfl,hA'.trans ?_⟩;rw[H.same,if_neg hz',List.map_nil,lN]
theorem Uo(N:ZC)(v:List Nat):(QA N v).length<=v.length:=List.length_filterMap_le _ _
theorem ZqI{b:Nat}{N:ZC}(hN:GoodN N)(hR:Rd st la (b+5) N){r:Ro}(hr:RtOk N r):S T3 LG [.ptr la (b+5) 0 0 0,r.av] st=some (.tup [.lit ((QA N (ZY N r)).map .str),.int .i64 0],st):=by
 refine OJ (rf:=p_rope_Leaves) Y (fun A hA=>?_);have hK:=fun L=>IV hN (hR.push hA (ro:=false) (L:=L)) hr
 have hNd:=fun L=>up1 (ON (A:=A) (L:=L) (la:=la) (b:=b) (r:=r))
 have hlen:=DY hN hr;have hseq:=fun (caps:LV) (hcw:ZS caps=caps) (o:LV->St->OS) hy=>OO (TY:=A5 T1 (A.length+1) o) (fun g y hg=>OK Un _ _ g y (le1 g y hg)) (σ:=lvF A N la b r) hN (lv:=A.length+1) (caps:=caps) hcw (fun _=>hR.push hA) (fun _=>rfl) (B:=100000000) hy hr (by omega) (l1:=A.length) (i1:=3) (l4:=A.length) (i4:=4) (fun _=>St.get_cur ..) (fun _=>St.get_cur ..)
 have hS:=hseq (BS 32 [(7,.ptr A.length 2 0 0 0),(18,.func (.func Qe) [] [.ptr A.length 3 0 0 0,.ptr A.length 4 0 0 0]),(20,.any)]) rfl (Ao (S T1) itS p_rope_Leaves.nt p_rope_Leaves.rng) (fun v h x more ro L hv hx=>OL _ _ _ _ _ (ZqH ⟨_,rfl,rfl⟩ v (by have:=Uo N v;omega) h x more ro L hx));unfold lvF at hS;have hl0:(QA N (ZY N r)).map AV.str=(QA N (ZY N r)).map AV.str:=rfl;generalize hes:QA N (ZY N r)=l at *;have e0:lvL A la b r ((QA N []).map .str)=lvL A la b r []:=rfl;rw[e0]at hS;unfold lvL at hS;unfold Ro.av at *;repeat'(first|refine ruS Y ?_|refine isS Y ?_|refine ZE Y Y Y Y ?_|refine rkS Y ?_|refine cm0 Y Y Y ?_ ?_|(intro _;try omega)|refine ZX Y Y Y ?_|refine EP Y ?_|refine ZA Y Y Y (hK _) ?_|refine ZA Y Y Y (hNd _) ?_)
 all_goals try contradiction
 refine .inr ⟨rfl,_,OI (g:=Qe) Y (by decide) hS,?_⟩;repeat'(first|refine ruS Y ?_|refine isS Y ?_|refine ZE Y Y Y Y ?_|refine rkS Y ?_)
 exact ES hA (.inr Y) Y Y Y (fun v hv=>by obtain⟨x,_,rfl⟩:=List.mem_map.1 hv;rfl) rfl rfl
def QD(w:List Nat)(h:Nat):List Nat:=if h∈w then w else w++[h]
def Zr(v:List Nat):List Nat:=v.foldl QD []
theorem Up(v:List Nat)(h:Nat):Zr (v++[h])=QD (Zr v) h:=by unfold Zr;rw[List.foldl_append];rfl
theorem Uq{w:List Nat}{h x:Nat}:x∈QD w h↔x∈w\/x=h:=by
 unfold QD;split
 ·rename_i q;exact⟨.inl,fun p=>p.elim id fun e=>e▸q⟩
 ·simp
theorem Yp:∀v:List Nat,(Zr v).Nodup/\(∀x,x∈Zr v↔x∈v)/\(Zr v).length<=v.length:=by
 intro v;have key:∀(v w:List Nat),w.Nodup->(v.foldl QD w).Nodup/\(∀x,x∈v.foldl QD w↔x∈w\/x∈v)/\(v.foldl QD w).length<=w.length+v.length:=by
  intro v;induction v with
  | nil=>intro w h;exact⟨h,by simp,by simp⟩
  | cons a v ih =>
   intro w h;have h1:(QD w a).Nodup:=by
    unfold QD;split
    ·exact h
    ·rename_i q
     rw[List.nodup_append];refine⟨h,by simp,fun x hx y hy=>?_⟩;rw[List.mem_singleton]at hy;intro e;rw[e,hy]at hx;exact q hx
   obtain⟨i1,i2,i3⟩:=ih (QD w a) h1;refine⟨i1,fun x=>?_,?_⟩
   ·rw[List.foldl_cons,i2,Uq,List.mem_cons,or_assoc]
   ·have:(QD w a).length<=w.length+1:=by unfold QD;split<;>simp
    rw[List.foldl_cons,List.length_cons];omega
 have:=key v [] List.nodup_nil;exact⟨this.1,fun x=>by have h:=this.2.1 x;simpa [Zr] using h,by have h:=this.2.2;simpa [Zr] using h⟩
def ndL(A:List (Bool × List Blk))(la b:Nat)(r:Ro)(w:List Nat):List Blk:=[.arr 5 0 [r.av],.arr 1 w.length (w.map Zj),.arr 1 0 [.ref A.length 1 w.length 0 w.length],.map (YG w),.arr 1 0 [.map A.length 3],.arr 1 0 [.ptr la (b+5) 0 0 0],.arr 5 0 [r.av]]
def ndF(A:List (Bool × List Blk))(la b:Nat)(r:Ro)(v:List Nat):St:=⟨A,false,ndL A la b r (Zr v)⟩
def ndK(A:List (Bool × List Blk)):List (Nat × Nat):=[(A.length,1),(A.length,2),(A.length,3)]
def ndB(A:List (Bool × List Blk))(w:List Nat):List Blk:=[.arr 1 w.length (w.map Zj),.arr 1 0 [.ref A.length 1 w.length 0 w.length],.map (YG w)]
theorem Zvo(A:List (Bool × List Blk))(la b:Nat)(r:Ro)(w:List Nat):Cl ⟨A,false,ndL A la b r w⟩ (ndK A) (ndB A w):=by
 refine⟨by simp[ndK],rfl,fun k hk=>?_,fun j lv ix b h1 h2=>?_⟩
 ·simp only[ndK,List.mem_cons,List.not_mem_nil,or_false]at hk
  rcases hk with rfl|rfl|rfl<;>simp[St.wr]
 ·match j,h1,h2 with
  | 0,h1,h2=>obtain⟨rfl,rfl⟩:=Prod.mk.inj (Option.some.inj h1);obtain rfl:=Option.some.inj h2;exact St.get_cur ..
  | 1,h1,h2=>obtain⟨rfl,rfl⟩:=Prod.mk.inj (Option.some.inj h1);obtain rfl:=Option.some.inj h2;exact St.get_cur ..
  | 2,h1,h2=>obtain⟨rfl,rfl⟩:=Prod.mk.inj (Option.some.inj h1);obtain rfl:=Option.some.inj h2;exact St.get_cur ..
  | n+3,h1,h2=>simp[ndK]at h1
theorem Zul(A:List (Bool × List Blk))(la b:Nat)(r:Ro)(w u:List Nat):Qo ⟨A,false,ndL A la b r w⟩ (ndK A) (ndB A u)=⟨A,false,ndL A la b r u⟩:=by
 simp[Qo,St.upd,ndL,ndK,ndB]
theorem ZqJ{N:ZC}{b:Nat}{r:Ro}(hc7:∃rest,caps=.any::.any::.any::.any::.any::.any::.any::.ptr A.length 2 0 0 0::.ptr A.length 4 0 0 0::rest/\rest.length=24)(v:List Nat)(hlim:(Zr v).length<4000000000)(h:Nat)(x:Nd)(more:List (Bool × List Blk))(ro:Bool)(L:List Blk)(hx:lk N h=some x):
 Ao (S T1) itS p_rope_Nodes.nt p_rope_Nodes.rng (.int .u64 (h:Nat)::Co x::caps) ⟨(ndF A la b r v).ps++more,ro,L⟩=some (.bool true,⟨(ndF A la b r (v++[h])).ps++more,ro,L⟩):=by
 obtain⟨rest,rfl,hrl⟩:=hc7;unfold ndF;rw[Up];generalize Zr v=w at *;have hwl:(w.map Zj).length=w.length:=List.length_map ..
 have H:=(Zvo A la b r w).more more ro L;refine OH (by simp[hrl];rfl) (fun A' hA'=>?_);rw[<- H.same]at hA';have g2:=fun L'=>H.old hA' rfl rfl (ro:=false) (L:=L') (j:=1) rfl rfl
 have g3:=fun L'=>H.old hA' rfl rfl (ro:=false) (L:=L') (j:=2) rfl rfl
 have g4:∀L',St.get ⟨A',false,L'⟩ A.length 4=some (.arr 1 0 [.map A.length 3]):=fun L'=>by
  rw[hA',H.same];exact ZD Y (F7 (s:=⟨A,false,ndL A la b r w⟩) (St.get_cur ..) more ro L)
 have hlk:=fun L'=>Cn (g3 L') h
 unfold Co;by_cases hm:h∈w
 ·simp only[decide_eq_true hm]at hlk
  repeat'(first|refine Qv ?_|refine isS Y ?_|refine B3 ?_)
  refine⟨rfl,?_⟩;repeat'(first|refine ruS Y ?_|refine isS Y ?_|refine rkS Y ?_|refine Zk Y (g4 _) Y Y ?_|refine YI Y Y (hlk _) ?_)
  all_goals try contradiction
  refine⟨rfl,hA'.trans ?_⟩;rw[H.same];unfold QD;rw[if_pos hm]
 ·simp only[decide_eq_false hm]at hlk
  repeat'(first|refine Qv ?_|refine isS Y ?_|refine B3 ?_)
  refine⟨rfl,?_⟩;repeat'(first|refine ruS Y ?_|refine isS Y ?_|refine ZO ?_|refine Zk Y (g4 _) Y Y ?_|refine YI Y Y (hlk _) ?_)
  all_goals try contradiction
  refine ZpR H hA' Y Y (j:=2) Y Y Y Y Y Y Y (F6 h w hm) (fun A2 hA2 hl2=>?_);have k2:=fun L'=>H.old hA2 rfl rfl (ro:=false) (L:=L') (j:=1) rfl rfl
  repeat'(first|refine Zk Y (k2 _) Y Y ?_|refine Qv ?_|refine isS Y ?_|refine ZO ?_|refine Z7 Y Y Y Y ?_)
  refine NZ (es:=w.map Zj) (ys:=[.int .u64 h]) H hA2 Y Y (j:=0) Y Y (by rw[hwl];rfl) rfl rfl rfl rfl (by rw[hwl,List.length_singleton];omega) (by decide) (fun A3 hA3 hl3=>?_);refine Cd H hA3 Y Y (j:=1) Y Y Y Y Y (Q2 _ (Nat.lt_succ_self _)) Y (fun A4 hA4 hl4=>?_);repeat'(first|refine Jg Y ?_|refine rkS Y ?_)
  refine⟨rfl,hA4.trans ?_⟩;have e:=Zul A la b r w (w++[h]);unfold QD;rw[if_neg hm,<- e];rw[<- IW (fun k hk=>by simp only[ndK,List.mem_cons,List.not_mem_nil,or_false]at hk;rcases hk with rfl|rfl|rfl<;>exact Nat.le_refl _)];simp only[ndB,lL,List.length_singleton,List.length_map,List.map_append];rfl
theorem Ur{b:Nat}{N:ZC}(hN:GoodN N)(hR:Rd st la (b+5) N){r:Ro}(hr:RtOk N r):S T3 HY [.ptr la (b+5) 0 0 0,r.av] st=some (.tup [.lit ((Zr (ZY N r)).map Zj),.int .i64 0],st):=by
 refine OJ (rf:=p_rope_Nodes) Y (fun A hA=>?_);have hK:=fun L=>IV hN (hR.push hA (ro:=false) (L:=L)) hr
 have hNd:=fun L=>up1 (ON (A:=A) (L:=L) (la:=la) (b:=b) (r:=r))
 have hlen:=DY hN hr;have hseq:=fun (caps:LV) (hcw:ZS caps=caps) (o:LV->St->OS) hy=>OO (TY:=A5 T1 (A.length+1) o) (fun g y hg=>OK Un _ _ g y (le1 g y hg)) (σ:=ndF A la b r) hN (lv:=A.length+1) (caps:=caps) hcw (fun _=>hR.push hA) (fun _=>rfl) (B:=100000000) hy hr (by omega) (l1:=A.length) (i1:=5) (l4:=A.length) (i4:=6) (fun _=>St.get_cur ..) (fun _=>St.get_cur ..)
 have hS:=hseq (BS 33 [(7,.ptr A.length 2 0 0 0),(8,.ptr A.length 4 0 0 0),(19,.func (.func Qe) [] [.ptr A.length 5 0 0 0,.ptr A.length 6 0 0 0]),(20,.any)]) rfl (Ao (S T1) itS p_rope_Nodes.nt p_rope_Nodes.rng) (fun v h x more ro L hv hx=>OL _ _ _ _ _ (ZqJ ⟨_,rfl,rfl⟩ v (by have:=(Yp v).2.2;omega) h x more ro L hx));unfold ndF at hS;generalize hes:Zr (ZY N r)=l at *;have e0:ndL A la b r (Zr [])=ndL A la b r []:=rfl;rw[e0]at hS;unfold ndL at hS;unfold Ro.av at *;repeat'(first|refine ruS Y ?_|refine isS Y ?_|refine ZE Y Y Y Y ?_|refine ZO ?_|refine cm0 Y Y Y ?_ ?_|(intro _;try omega)|refine ZX Y Y Y ?_|refine EP Y ?_|refine DH Y ?_|refine ZA Y Y Y (hK _) ?_)
 all_goals try contradiction
 refine Zg Y Y Y (by simp only[ZI,Zs,if_pos (Nat.lt_succ_self _)]) Y Y ?_;repeat'(first|refine ruS Y ?_|refine isS Y ?_|refine ZE Y Y Y Y ?_|refine rkS Y ?_|refine ZA Y Y Y (hNd _) ?_)
 refine .inr ⟨rfl,_,OI (g:=Qe) Y (by decide) hS,?_⟩;repeat'(first|refine ruS Y ?_|refine isS Y ?_|refine ZE Y Y Y Y ?_|refine rkS Y ?_)
 exact ES hA (.inr Y) Y Y (by simp) (fun v hv=>by obtain⟨x,_,rfl⟩:=List.mem_map.1 hv;rfl) rfl rfl
noncomputable def tv:List (FuncId × Ent):=t3
noncomputable def TV:Tab:=Xt tv
def Jo(l:List (Nat × Int)):List (AV × AV):=l.map fun p=>(AV.int .u64 p.1,AV.int .i64 p.2)
def AT(h:Nat):List (Nat × Int)->List (Nat × Int)
 | []=>[(h,1)]
 | (k,n)::l=>if k=h then (k,n+1)::l else (k,n)::AT h l
def Yc(h:Nat):List (Nat × Int)->Int
 | []=>0
 | (k,n)::l=>if k=h then n else Yc h l
def fC(h:Nat):List (Nat × Int)->Option AV
 | []=>none
 | (k,n)::l=>if k=h then some (.int .i64 n) else fC h l
theorem Us(o:Nat):∀l,AP (.int .u64 o) (Jo l)=some (fC o l)
 | []=>rfl
 | (k,n)::l=>by
  rw[Jo,jC,AP];show (Option.bind (if IntKind.u64=IntKind.u64 then some ((o:Int) == (k:Int)) else none) fun b=>if b=true then some (some (AV.int .i64 n)) else AP (.int .u64 o) (Jo l))=_
  rw[if_pos rfl,oS,Us o l,fC];by_cases h:k=o
  ·subst h;simp
  ·rw[if_neg h,if_neg (by simp;omega)]
theorem Ut(o:Nat):∀l,(fC o l).getD (.int .i64 0)=.int .i64 (Yc o l)
 | []=>rfl
 | (k,n)::l=>by
  unfold fC Yc;split
  ·rfl
  ·exact Ut o l
theorem OP(o:Nat):∀l,AE (.int .u64 o) (.int .i64 (Yc o l+1)) (Jo l)=some (Jo (AT o l))
 | []=>rfl
 | (k,n)::l=>by
  rw[Jo,jC,AE];show (Option.bind (if IntKind.u64=IntKind.u64 then some ((o:Int) == (k:Int)) else none) fun b=>if b=true then some ((AV.int .u64 o,AV.int .i64 (Yc o ((k,n)::l)+1))::Jo l) else (AE (.int .u64 o) (.int .i64 (Yc o ((k,n)::l)+1)) (Jo l)).map fun r=>(AV.int .u64 k,AV.int .i64 n)::r)=_
  rw[if_pos rfl,oS];by_cases h:k=o
  ·subst h
   rw[if_pos (by simp),Yc,if_pos rfl,AT,if_pos rfl];rfl
  ·rw[if_neg (by simp;omega),Yc,if_neg h,OP o l,AT,if_neg h];rfl
theorem Uu{lv:Nat}{l:List (Nat × Int)}(hg:st.get lv mx=some (.map (Jo l)))(o:Nat):lookV st 0 (.int .i64 0) false (.int .u64 o) (.map lv mx)=some (.int .i64 (Yc o l)):=by
 simp only[lookV,Di,hg,AA,oS,Jh,if_true,Us,Option.map_some,oJ];rw[<- Ut];cases fC o l<;>rfl
theorem Uv(o h:Nat):∀l,Yc o (AT h l)=Yc o l+if o=h then 1 else 0
 | []=>by simp only[AT,Yc];by_cases e:h=o<;>simp[e,Ne.symm]
 | (k,n)::l=>by
  unfold AT;by_cases e:k=h
  ·subst e
   rw[if_pos rfl];unfold Yc;by_cases e2:k=o
   ·subst e2;simp
   ·rw[if_neg e2,if_neg e2,if_neg (fun q=>e2 q.symm)];simp
  ·rw[if_neg e]
   show (if k=o then n else Yc o (AT h l))=(if k=o then n else Yc o l)+_
   by_cases e2:k=o
   ·subst e2;rw[if_pos rfl,if_pos rfl,if_neg e];simp
   ·rw[if_neg e2,if_neg e2];exact Uv o h l
def AB(c:List (Nat × Int))(l:List Nat):List (Nat × Int):=l.foldl (fun c h=>AT h c) c
theorem IY(o:Nat):∀(l:List Nat) (c:List (Nat × Int)),Yc o (AB c l)=Yc o c+l.count o
 | [],c=>by simp[AB]
 | h::l,c=>by
  show Yc o (AB (AT h c) l)=_
  rw[IY o l,Uv,List.count_cons];by_cases e:o=h
  ·subst e;simp;omega
  ·rw[if_neg e,if_neg (by simpa using fun q=>e q.symm)];simp
theorem Uw(c:List (Nat × Int))(l:List Nat)(h:Nat):AB c (l++[h])=AT h (AB c l):=by simp[AB]
theorem Znw{O:Orc}{k:List Fr}{Q:JD}{L:List Blk}{keep:List Nat}{is:List QAbs.PI}{kk:Nat}{x i v:Opd}{ki w:AV}{es es':List (AV × AV)}
 (hx:ZL e x=some (.map A.length ix)) (hi:ZL e i=some ki) (hki:Jh kk ki=true) (hv:ZL e v=some w) (hs:ZI Zs (A.length+1) ⟨A,false,L⟩ w=some (w,⟨A,false,L⟩)) (hb:L[ix]?=some (.map es)) (hp:AE ki w es=some es')
 (h:Is O is keep k Q e ⟨A,false,L.set ix (.map es')⟩):Is O (⟨none,none,false,.mupd kk x i v⟩::is) keep k Q e ⟨A,false,L⟩:=by
 have hlt:=Zc hb;have hg:St.get ⟨A,false,L⟩ A.length ix=some (.map es):=by simp only[St.get,if_true,hb];rfl
 have hput:St.put ⟨A,false,L⟩ A.length ix (.map es')=some ⟨A,false,L.set ix (.map es')⟩:=by simp only[St.put,if_true,jB,if_false,if_pos hlt]
 refine Zm (od:=none) (v:=.undef) (st':=⟨A,false,L.set ix (.map es')⟩) ?_ h;simp only[ZW,evalPO,ZB hx,ZB hi,ZB hv,BN,hki,if_true,hs,oS,BY,hg,AA,hp,hput,AF]
theorem leV:TLe T3 TV:=fun g y hg=>hg
theorem upV{r:AV × St}(h:S T3 f args st=some r):S TV f args st=some r:=h
noncomputable def tw:List (FuncId × Ent):=tv
noncomputable def TW:Tab:=Xt tw
theorem leW:TLe TV TW:=fun g y hg=>hg
theorem upW{r:AV × St}(h:S TV f args st=some r):S TW f args st=some r:=h
theorem s_pr{T T0:Tab}{X:Run}{pre:PC}{rs:List RV}{r:AV × St}(hT:T f=some (.base (fnO (BJ (S T0) itS X pre) rs)))
 (h:∀A,A=st.ps->Ru (S T0) pre [] (fun x e s=>(x=.ret/\QT false rs (.ret,e,s)=some r)\/(x=.norm/\∃x2 e2 s2,X e s=some (x2,e2,s2)/\QT false rs (x2,e2,s2)=some r)) (QB 0 args) ⟨A,false,[]⟩):S T f args st=some r:=by
 refine FH (o:=fnO (BJ (S T0) itS X pre) rs) hT ?_;obtain⟨x,e1,s1,h1,h2⟩:=(h _ rfl).h;unfold fnO BJ;have:st.push=⟨st.ps,false,[]⟩:=rfl;rw[this,h1,oS];rcases h2 with⟨rfl,h3⟩|⟨rfl,x2,e2,s2,h3,h4⟩
 ·simp only[JB,oS];exact h3
 ·simp only[JB,h3,oS];exact h4
def Ap(p:Int->Bool)(c:List (Nat × Int)):List Nat:=(c.filter fun q=>p q.2).map Prod.fst
def toH(h:Nat):H64:=⟨h % 18446744073709551616,Nat.mod_lt _ (by decide)⟩
theorem Ux(p:Int->Bool):∀c:List (Nat × Int),(∀q∈c,q.1<18446744073709551616)->B6 p (Jo c)=some ((Ap p c).map toH)
 | [],_=>rfl
 | (k,n)::c,hc=>by
  have h0:k<18446744073709551616:=hc (k,n) (by simp);show B6 p ((AV.int .u64 (k:Int),AV.int .i64 n)::Jo c)=_
  unfold B6;rw[dif_pos ⟨by omega,by omega⟩,Ux p c fun q hq=>hc q (by simp[hq])];unfold Ap;rw[List.filter_cons];have e:toH k=⟨((k:Nat):Int).toNat,by omega⟩:=by
   apply Fin.ext;show k % 18446744073709551616=((k:Nat):Int).toNat
   rw[Int.toNat_natCast];omega
  by_cases hp:p n=true
  ·simp only[hp,if_true,Option.map_some,jC,e]
  ·simp[hp]
theorem Uy(h:Nat):∀c:List (Nat × Int),(c.map Prod.fst).Nodup->((AT h c).map Prod.fst).Nodup/\∀x,x∈(AT h c).map Prod.fst↔x=h\/x∈c.map Prod.fst
 | [],_=>by simp[AT]
 | (k,n)::c,hc=>by
  simp only[jC,List.nodup_cons]at hc;unfold AT;split
  ·rename_i e
   subst e;simp only[jC,List.nodup_cons,List.mem_cons];exact⟨hc,fun x=>by constructor<;>intro q<;>simp_all⟩
  ·rename_i e
   obtain⟨i1,i2⟩:=Uy h c hc.2;simp only[jC,List.nodup_cons,List.mem_cons];refine⟨⟨fun q=>?_,i1⟩,fun x=>?_⟩
   ·rcases (i2 k).1 q with q|q
    ·exact e q
    ·exact hc.1 q
   ·rw[i2];constructor<;>(rintro (q|q|q)<;>simp[q])
theorem IZ:∀(l:List Nat) (c:List (Nat × Int)),(c.map Prod.fst).Nodup->((AB c l).map Prod.fst).Nodup/\∀x,x∈(AB c l).map Prod.fst↔x∈c.map Prod.fst\/x∈l
 | [],c,hc=>⟨hc,by simp[AB]⟩
 | h::l,c,hc=>by
  obtain⟨i1,i2⟩:=Uy h c hc;obtain⟨j1,j2⟩:=IZ l (AT h c) i1;refine⟨j1,fun x=>?_⟩;show x∈(AB (AT h c) l).map Prod.fst↔_
  rw[j2,i2,List.mem_cons];constructor
  ·rintro ((q|q)|q)<;>simp[q]
  ·rintro (q|q|q)<;>simp[q]
theorem OQ:∀ {c:List (Nat × Int)} {k:Nat} {n:Int},(c.map Prod.fst).Nodup->(k,n)∈c->Yc k c=n
 | (k0,n0)::c,k,n,hn,h=>by
  simp only[jC,List.nodup_cons]at hn;unfold Yc;rcases List.mem_cons.1 h with q|q
  ·simp only[jP]at q
   rw[if_pos q.1.symm];exact q.2.symm
  ·rw[if_neg (fun e=>hn.1 (by rw[e];exact List.mem_map.2 ⟨(k,n),q,rfl⟩))]
   exact OQ hn.2 q
theorem ZqL{p:Int->Bool}{c:List (Nat × Int)}(hn:(c.map Prod.fst).Nodup){x:Nat}:x∈Ap p c↔x∈c.map Prod.fst/\p (Yc x c)=true:=by
 unfold Ap;rw[List.mem_map];constructor
 ·rintro⟨⟨k,n⟩,h,rfl⟩
  rw[List.mem_filter]at h;exact⟨List.mem_map.2 ⟨_,h.1,rfl⟩,by rw[OQ hn h.1];exact h.2⟩
 ·rintro⟨h1,h2⟩
  obtain⟨⟨k,n⟩,h,rfl⟩:=List.mem_map.1 h1;refine⟨(k,n),List.mem_filter.2 ⟨h,?_⟩,rfl⟩;rw[OQ hn h]at h2;exact h2
theorem Uz{p:Int->Bool}{c:List (Nat × Int)}(hn:(c.map Prod.fst).Nodup):(Ap p c).Nodup:=by
 unfold Ap;exact ((List.filter_sublist (p:=fun q=>p q.2) (l:=c)).map Prod.fst).nodup hn
def Bo(l:List Nat):List Nat:=(srtH (l.map toH)).map Fin.val
theorem ZtO(l:List H64):l.map hAV=(l.map Fin.val).map Zj:=by rw[List.map_map];rfl
theorem Ia(hl:∀x∈l,x<18446744073709551616)(hn:l.Nodup):(l.map toH).Nodup:=by
 induction l with
 | nil=>simp
 | cons a l ih =>
  rw[List.nodup_cons]at hn;rw[jC,List.nodup_cons];refine⟨fun h=>?_,ih (fun x hx=>hl x (by simp[hx])) hn.2⟩;obtain⟨b,hb,e⟩:=List.mem_map.1 h;have h1:=hl a (by simp);have h2:=hl b (by simp[hb]);have e2:b % 18446744073709551616=a % 18446744073709551616:=congrArg Fin.val e;have:b=a:=by omega
  subst this;exact hn.1 hb
theorem U0:∀l:List Tr,(∀t∈l,4*(t.cnt:Int)+4<=t.bytes)->4*(Tr.cntL l:Int)+4*l.length<=Tr.bytesL l
 | [],_=>by simp[Tr.cntL,Tr.bytesL]
 | t::l,h=>by
  have h1:=h t (by simp);have h2:=U0 l fun u hu=>h u (by simp[hu])
  simp only[Tr.cntL,Tr.bytesL,List.length_cons];omega
theorem U1{N:ZC}(hN:GoodN N)(hv:Val N t):(t.cnt:Int)<=t.bytes/\(Big t->4*(t.cnt:Int)+4<=t.bytes):=by
 have hsz:=hv.size hN;have hps:=hv.pos.2;induction hv with
 | @kept o h m k x h0 hx hok hh hm hk =>
  have ec:(Tr.mk o h m [] k).cnt=0:=by rw[Tr.cnt,Tr.cntO_getD,hk,if_neg h0];rfl
  have hl:h<=16:=by
   rcases hok with q|⟨n,ks,q⟩
   ·rw[<- hh,q.h];omega
   ·have:=q.n15;have e:=q.eq;subst e;simp only at hh;omega
  rw[ec];refine⟨by omega,fun q=>?_⟩;have h1:=hsz q;have h2:=(Fm hl).1;simp only[Tr.h]at h1;omega
 | @leaf s k h1 h2 hk =>
  have ec:(Tr.mk 0 0 .zero s k).cnt=1:=by rw[Tr.cnt,Tr.cntO_getD,hk];rfl
  rw[ec];refine⟨by omega,fun q=>?_⟩;have:=q rfl;omega
 | @inner h l hh h2 h4 hl hb hv ih =>
  have ec:(Tr.mk 0 (h+1) .zero [] (some l)).cnt=Tr.cntL l+1:=by rw[Tr.cnt,Tr.cntO];simp;omega
  have eb:(Tr.mk 0 (h+1) .zero [] (some l)).bytes=Tr.bytesL l:=by rw[Tr.bytes,Tr.bytesO];simp[Mea.zero]
  have:=U0 l fun u hu=>(ih u hu ((hv u hu).size hN) (hv u hu).pos.2).2 (fun q=>hb u hu (by rw[<- hl u hu];exact q))
  rw[ec,eb];exact⟨by omega,fun _=>by omega⟩
theorem Zvp{N:ZC}(hN:GoodN N)(hv:VE N t):(nw t:Int)<=t.bytes:=by
 rcases hv with he|hv
 ·unfold nw;rw[if_pos ⟨he.old,he.h,he.text⟩,he.bytes];decide
 ·rw[CG hv];exact (U1 hN hv).1
theorem ZlQ{L:List Blk}{b:Nat}{r:AR}(hA:HasR ⟨A,false,L⟩ la b r)(hN:r.n<=r.blk.length)(h16:r.states.length<=16384)(h6:r.n<65536)(hg:GoodN r.nodes)(hv:VE r.nodes t)(hb:t.bytes<=65536)(hn:r.n<nw t):
 S Tb Xo [.ptr la (b+5) 0 0 0,t.av] ⟨A,false,L⟩=some (.tup [.nilptr,.int .i64 6],⟨A,false,L++[.arr 7 0 [t.av]]⟩):=by
 have hv:Val r.nodes t:=by
  rcases hv with he|hv
  ·unfold nw at hn;rw[if_pos ⟨he.old,he.h,he.text⟩]at hn;omega
  ·exact hv
 rw[CG hv]at hn;have hcb:=(U1 hg hv).1;have hCk:=fun T=>Nj (hA.app T).rd hv hb
 have hNw:=fun st=>UX hv (by omega) st
 have hSt:=fun T=>II (hA.app T) hN h16 h6
 unfold AR.statsAV at hSt;refine X4 Y ?_;have e0:(⟨A,false,L⟩:St)=⟨A,false,L++[]⟩:=by rw[lN]
 rw[e0];repeat'(first|refine XM Y (Zn _) (Z1 _) Y Y ?_|refine As Y Y Y (Zb _) ?_|refine ruS Y ?_|refine isS Y ?_|refine rkS Y ?_|refine EN (agg:=false) Y Y ?_|refine cm0 Y Y Y ?_ ?_|(intro _;try omega)|refine zA0 Y Y (hCk _) ?_|refine zA0 Y Y (hNw _) ?_|refine zA0 Y Y (hSt _) ?_)
 all_goals try omega
 refine (Jq (.inr Y) Y Y Y Y).trans ?_;rfl
theorem U2{b:Nat}{r:AR}(hA:Has st la b r)(ho:AROk r)(hg:GoodN r.nodes)(hv:VE r.nodes t)(hb:t.bytes<=65536)(hn:r.n<nw t):
 S Tb Xm [.ptr la (b+5) 0 0 0,t.av] st=some (.tup [Ro.zero.av,.lit [],.int .i64 6],st):=by
 refine AS Y (fun A hA'=>?_);have hS:=fun L=>ZlQ (L:=L) (hA.push hA').r ho.nb ho.n16 (by have:=ho.nn;have:=ho.n16;omega) hg hv hb hn
 repeat'(first|refine ruS Y ?_|refine isS Y ?_|refine rkS Y ?_|refine cm0 Y Y Y ?_ ?_|(intro _;try omega)|refine Zf Y Y Y ?_|refine ZX Y Y Y ?_|refine Zg Y Y Y Y Y Y ?_|refine Xk Y ?_|refine ZE Y Y Y (Zb _) ?_|refine Zi Y (Zn _) (Z1 _) ?_|refine zA0 Y Y (hS _) ?_)
 all_goals try first|contradiction|omega
 exact Ug (ro:=.zero) (l:=[]) hA' (.inr Y) Y Y Y Y Y Y
theorem DZ{x:B8}{l:List B8}(h:l[i]?=some x):(l.take (i+1)).flatten=(l.take i).flatten++x:=by
 rw[List.take_add_one,h];simp
theorem Cp(l:List B8)(i:Nat):(l.take i).flatten.length<=l.flatten.length:=by
 have:=congrArg List.length (congrArg List.flatten (List.take_append_drop i l));rw[List.flatten_append,lL]at this;omega
theorem ZqN{b:Nat}{N:ZC}(hN:GoodN N)(hR:Rd st la (b+5) N){r:Ro}(hr:RtOk N r)(hlim:(QA N (ZY N r)).flatten.length<=65536):S T3 HZ [.ptr la (b+5) 0 0 0,r.av] st=some (.tup [.str (QA N (ZY N r)).flatten,.int .i64 0],st):=by
 refine Zv (le3 HZ (.pf Hq) Y) (fun A hA=>?_);have hL:=fun L=>ZqI hN (hR.push hA (ro:=false) (L:=L)) hr
 have hll:(QA N (ZY N r)).length<4000000000:=by have:=Uo N (ZY N r);have:=DY hN hr;omega
 unfold Ro.av at *;generalize QA N (ZY N r)=l at *;repeat'(first|refine ruS Y ?_|refine isS Y ?_|refine ZE Y Y Y Y ?_|refine ZO ?_|refine Z5 Y ?_|refine cm0 Y Y Y ?_ ?_|(intro _;try omega)|refine ZX Y Y Y ?_|refine Xk Y ?_|refine ZA Y Y Y (hL _) ?_)
 all_goals try first|contradiction|omega
 refine Ze (α:=Nat) (fun i=>[(8,.ref A.length 1 i 0 (l.take i).flatten.length),(20,.lit (l.map .str)),(21,.int .i64 l.length),(22,.int .i64 i)])
  (fun i=>⟨A,false,[.arr 5 0 [r.av],.arr 1 i (Z4 (l.take i).flatten)]⟩) (fun i=>i<=l.length) (fun i=>l.length-i) 0 rfl rfl (by simp) ?_
 rintro i hi;have hfl:=Cp l i;repeat'(first|refine ruS Y ?_|refine isS Y ?_|refine rkS Y ?_|refine Zx Y Y ?_|refine Jy Y Y (by omega) (fun _=>rfl) (fun _ _=>?_)|refine cm0 Y Y Y ?_ ?_|(intro _;try omega))
 ·rename_i x hx
  have hx2:l[i]?=some x:=hx;have hf2:=Cp l (i+1);rw[DZ hx2]at hf2;rw[lL]at hf2;refine HO (ix:=1) (ver:=i) (n:=(l.take i).flatten.length) (es:=Z4 (l.take i).flatten) (vx:=.str x) (ys:=Z4 x) Y Y Y ?_ (Ye _).symm ?_ (by decide) (Ts _) (Tt _ _ _) Y ?_
  ·rfl
  ·rw[Ye,Ye];omega
  repeat'(first|refine Qv ?_|refine isS Y ?_|refine rkS Y ?_|refine ZV Y Y (by omega) ?_)
  refine⟨i+1,⟨?_,?_⟩,by omega,by omega⟩
  ·simp only[DZ hx2,lL,Ye];rfl
  ·simp only[DZ hx2,Tu]
 ·have hi':i=l.length:=by omega
  subst hi';rw[List.take_length];skip
  refine Sa Y (v:=.str l.flatten) ?_ ?_
  ·have hl:=Ye l.flatten
   show (AG l.length 0 l.flatten.length (St.get _ A.length 1)).bind _=_
   rw[St.get_cur];show (AG l.length 0 l.flatten.length (some (Blk.arr 1 l.length (Z4 l.flatten)))).bind _=_
   simp only[AG,true_and,hl,Nat.zero_add,Nat.le_refl,if_true,List.drop_zero,oS];rw[List.take_of_length_le (by omega),UY];rfl
  repeat'(first|refine isS Y ?_|refine rkS Y ?_|refine Xz ?_)
  refine ZQ hA (by simp) Y Y Y Y ?_;rfl
theorem PI.ok{r:AR}(ho:AROk r)(hg:GoodN r.nodes)(hv:VE r.nodes t)(hb:t.bytes<=65536)(hn:nw t<=r.n){its:List It}{ρ:Nat->Ro}(h:PI t its rx ρ):
 WrB r (nw t) (wrV t r).1 (wrV t r).2.2/\(IsEmpty t/\(wrV t r).2.1=.zero\/Val r.nodes t/\WrOk r.nodes t (wrV t r).1 (wrV t r).2.1):=by
 rcases h with⟨h1,_,h2⟩|⟨⟨M,hM⟩,R,h1,h2,h3⟩
 ·have e:nw t=0:=by unfold nw;rw[if_pos ⟨h1.old,h1.h,h1.text⟩]
  rw[OE h1,e];exact⟨.refl ho hg,.inl ⟨h1,rfl⟩⟩
 ·rcases hv with hv|hv
  ·exact absurd hv hM.not_empty
  ·rw[IT hv,CG hv]
   rw[CG hv]at hn;obtain⟨ρ',a1,a2,a3,a4,a5⟩:=exec_ok hg hv hb r ho hg (.refl _) hn rx its R ρ h1 h2 h3;exact⟨a4,.inr ⟨hv,a5⟩⟩
theorem OR{b:Nat}{r:AR}(hA:Has st la b r)(ho:AROk r)(hg:GoodN r.nodes)(hv:VE r.nodes t)(hb:t.bytes<=65536)(hn:nw t<=r.n):
 WrB r (nw t) (wrV t r).1 (wrV t r).2.2/\(IsEmpty t/\(wrV t r).2.1=.zero\/Val r.nodes t/\WrOk r.nodes t (wrV t r).1 (wrV t r).2.1):=by
 obtain⟨L2,tx,ver,cs,its,F,keys,rx,ρ,hS,hB⟩:=Uf (L:=[]) (hA.push rfl).r ho.nb ho.n16 (by have:=ho.nn;have:=ho.n16;omega) hv hb hn;exact hB.pi.ok ho hg hv hb hn
def Da(N:ZC)(r:Ro):B8:=if r.at_=0 then [] else QK N r.h r.at_
structure Rt(N:ZC)(r:Ro)(s:B8):Prop where
 rt:RtOk N r
 tx:Da N r=s
theorem RtOk.ext{N M:ZC}(hE:Ext N M){r:Ro}(h:RtOk N r):RtOk M r:=h.imp id fun ⟨h0,x,h1,h2⟩=>⟨h0,x,hE _ _ h1,h2⟩
theorem Rt.ext{N M:ZC}(hN:GoodN N)(hE:Ext N M){r:Ro}(h:Rt N r s):Rt M r s:=by
 refine⟨h.rt.ext hE,?_⟩;rw[<- h.tx];unfold Da;split
 ·rfl
 ·rename_i q
  rcases h.rt with e|⟨_,x,h1,_,h2,_⟩
  ·rw[e]at q;exact absurd Y q
  ·exact IR hN hE _ _ x h1 h2
theorem Rt.zero(N:ZC):Rt N .zero []:=⟨.inl rfl,rfl⟩
theorem Rt.m{N:ZC}(hN:GoodN N){r:Ro}(h:Rt N r s):r.m=YZ s:=by
 obtain⟨h,rfl⟩:=h;unfold Da;rcases h with rfl|⟨h0,x,h1,h2,h3,h4⟩
 ·rfl
 ·rw[if_neg h0,Np hN _ _ x h1 h3,h4]
theorem Rt.wr{r:AR}(ho:AROk r){N:ZC}{ro:Ro}(h:WrOk N t r ro):Rt r.nodes ro (t.txt N):=by
 obtain⟨y,h1,h2,h3,h4⟩:=h.live;have h0:=(ho.hnd h1).2;refine⟨.inr ⟨h0,y,h1,h2,by rw[h3,h.rh],by rw[h4,h.rm]⟩,?_⟩;unfold Da;rw[if_neg h0,h.rh,h.txt]
theorem Rt.keep{N:ZC}{r:Ro}(h:Rt N r s):VE N (Yg r)/\(Yg r).txt N=s:=by
 obtain⟨h,rfl⟩:=h;unfold Da Yg;rcases h with rfl|⟨h0,x,h1,h2,h3,h4⟩
 ·rw[if_pos (by rfl),if_pos (by rfl)];exact⟨.inl zero_empty,rfl⟩
 ·rw[if_neg h0,if_neg h0]
  exact⟨.inr (.kept h0 h1 h2 h3 h4 Y),by rw[Tr.keep,Tr.txt,if_neg h0];simp[Tr.txtO]⟩
theorem Rt.b{N:ZC}(hN:GoodN N){r:Ro}(h:Rt N r s):(Yg r).bytes=s.length/\r.m.b=s.length:=by
 have h1:=h.keep;have h2:=h1.1.len hN;rw[h1.2]at h2;exact⟨h2.symm,by rw[h.m hN];rfl⟩
theorem CI{b:Nat}{r:AR}(hA:Has st la b r)(ho:AROk r)(hg:GoodN r.nodes)(hv:VE r.nodes t)(hb:t.bytes<=65536)(hn:nw t<=r.n):
 WrB r (nw t) (wrV t r).1 (wrV t r).2.2/\Rt (wrV t r).1.nodes (wrV t r).2.1 (t.txt r.nodes):=by
 obtain⟨h1,h2⟩:=OR hA ho hg hv hb hn;refine⟨h1,?_⟩;rcases h2 with⟨he,h2⟩|⟨hv,h2⟩
 ·rw[h2,he.txt];exact .zero _
 ·exact .wr h1.ok h2
theorem U3(N:ZC)(v w:List Nat):QA N (v++w)=QA N v++QA N w:=by unfold QA;rw[List.filterMap_append]
theorem Zjs{N:ZC}(hN:GoodN N):∀n o x,lk N o=some x->x.h=n->(QA N (QM N n o)).flatten=QK N n o:=by
 intro n;induction n with
 | zero =>
  intro o x hx hh;rw[QM,QK,hx];simp[QA,QS hx,hh]
 | succ n ih =>
  intro o x hx hh;rw[QM,QK,hx,QS hx];have h0:QA N [o]=[]:=by simp[QA,QS hx];omega
  have e:=U3 N [o] (x.ks.flatMap fun k=>QM N n k.at_);rw[h0]at e;simp only[Option.map_some,Option.getD_some];rw[show (o::x.ks.flatMap fun k=>QM N n k.at_)=[o]++x.ks.flatMap fun k=>QM N n k.at_ from rfl,e,lE];have hk:=(hN o x hx).2;have key:∀l:List Kid,(∀k∈l,k∈x.ks)->(QA N (l.flatMap fun k=>QM N n k.at_)).flatten=l.flatMap fun k=>QK N n k.at_:=by
   intro l;induction l with
   | nil=>intro _;rfl
   | cons k l ih2 =>
    intro h;obtain⟨_,y,y1,y2,_⟩:=hk k (h k (by simp));rw[List.flatMap_cons,List.flatMap_cons,U3,List.flatten_append,ih k.at_ y y1 (by omega),ih2 (fun q hq=>h q (by simp[hq]))]
  exact key _ fun _ h=>h
theorem Rt.leaves{N:ZC}(hN:GoodN N){r:Ro}(h:Rt N r s):(QA N (ZY N r)).flatten=s:=by
 obtain⟨h,rfl⟩:=h;unfold Da ZY;split
 ·rfl
 ·rename_i q
  rcases h with rfl|⟨_,x,h1,_,h2,_⟩
  ·exact absurd Y q
  ·exact Zjs hN _ _ x h1 h2
theorem Yq(A:List (Bool × List Blk))(L0 T:List Blk)(r:AR):Has ⟨A,false,L0++(arB A.length L0.length r++T)⟩ A.length L0.length r:=by
 have h:∀i b,(arB A.length L0.length r++T)[i]?=some b->vis (some b)=some b->St.get ⟨A,false,L0++(arB A.length L0.length r++T)⟩ A.length (L0.length+i)=some b:=by
  intro i b hb hv;rw[St.get_cur,QI,hb,hv]
 exact⟨by simp[St.wr],h 0 _ Y Y,h 1 _ Y Y,h 2 _ Y Y,h 3 _ Y Y,h 4 _ Y Y,h 5 _ Y Y⟩
theorem Ib(A:List (Bool × List Blk))(L0 T:List Blk)(r r':AR):QG ⟨A,false,L0++(arB A.length L0.length r++T)⟩ A.length L0.length r'=⟨A,false,L0++(arB A.length L0.length r'++T)⟩:=by
 have h:∀(X:List Blk) (i:Nat) (b:Blk),St.upd ⟨A,false,L0++X⟩ A.length (L0.length+i) b=⟨A,false,L0++X.set i b⟩:=fun X i b=>by
  unfold St.upd;simp only[if_true,DT]
 have h0:∀(X:List Blk) (b:Blk),St.upd ⟨A,false,L0++X⟩ A.length L0.length b=⟨A,false,L0++X.set 0 b⟩:=fun X b=>h X 0 b
 simp only[QG,arK,arB,Qo,h,h0];rfl
theorem Zum{L:List Blk}{x:Ex}{c4 c5 j4 w4 v4:Nat}{ro:Ro}{z:Int}(hA:A=st.A++[(st.ro,st.L)])(hx:x=.norm\/x=.ret)(h4:JZ e c4=some (.ptr A.length j4 v4 0 0))(hg4:L[j4]?=some (.arr w4 v4 [ro.av]))
 (h6:JZ e c5=some (.int .i64 z)):QT false [.c c4 true 5,.s c5] (x,e,⟨A,false,L⟩)=some (.tup [ro.av,.int .i64 z],st):=by
 refine Bi (v:=.tup [ro.av,.int .i64 z]) hA hx ?_ (L':=L) Y Y;have h1:AH ⟨A,false,L⟩ e (.c c4 true 5)=some ro.av:=by
  simp only[AH,Z0 h4,loadP,St.get_cur,hg4,vis,Ax,if_true,List.getElem?_cons_zero,oS];rfl
 simp only[QE,AM,h1,oS];simp only[AH,Z0 h6,oS,Option.map_some,BE]
theorem U4{b:Nat}{r:AR}(hA:Has st la b r)(ho:AROk r)(hg:GoodN r.nodes)(s:B8)(hs:s.length<=65536)(hn:nw (QR s)<=r.n):
 S Tb Fe [.ptr la (b+5) 0 0 0,.str s] st=some (.tup [(wrV (QR s) r).2.1.av,.int .i64 0],QG st la b (wrV (QR s) r).1):=by
 obtain⟨b1,b2,b3⟩:=YY hg hs;refine AS Y (fun A hA'=>?_);have hB:=fun L=>Ny hg s hs ⟨A,false,L⟩
 have hle:=hA.le;have hW:=fun L=>OF (st:=⟨A,false,L⟩) (hA.push hA') ho hg b1 (by rw[b3];omega) hn
 simp only[Cm hA' hle]at hW;generalize (wrV (QR s) r).1=r' at *;generalize (wrV (QR s) r).2.1=ro at *;repeat'(first|refine ruS Y ?_|refine isS Y ?_|refine ZO ?_|refine cm0 Y Y Y ?_ ?_|(intro _;try omega)|refine Qc Y Y Y Y ?_|refine ZX Y Y Y ?_|refine ZE Y Y Y (Zb _) ?_|refine Zg Y Y Y (Z9 _ _ _) (Qg _ _) Y ?_|refine zA0 Y Y (hB _) ?_)
 all_goals try first|contradiction|omega
 obtain⟨A2,hA2⟩:∃A2,A2=(QG st la b r').ps:=⟨_,rfl⟩;simp only[<- hA2]at hW;have hAl:A.length=A2.length:=by rw[hA',hA2];simp[St.ps,CB]
 refine ZA Y Y (Zvk Y _) (hW _) ?_;rw[hAl];repeat'(first|refine Qn Y Y Y Y Y Y ?_|refine ZE Y Y Y Y ?_|refine ruS Y ?_|refine isS Y ?_|refine rkS Y ?_|refine ZX Y Y Y ?_)
 exact Zum hA2 (.inr Y) Y Y Y
theorem OU(n g:Nat)(hn:n<=16384)(hg:1<=g/\g<=4294967295):AROk (Qq n g):=by
 have hb:∀i,i<n->(Qq n g).blk[i]?=some ((n:Int)-1-i):=fun i hi=>by simp[Qq,hi]
 refine⟨by simp[Qq],by simp[Qq];exact hn,by simp[Qq],by simp[Qq],fun i hi=>⟨n-1-i,?_,?_,?_⟩,fun i j hi hj q=>?_,fun s hs=>⟨1,?_,by omega,?_⟩,?_,fun h x hx=>?_,?_,?_,?_⟩
 ·have hi':i<n:=hi
  rw[hb i hi'];congr 1;show (n:Int)-1-i=((n-1-i:Nat):Int)
  omega
 ·have hi':i<n:=hi
  show n-1-i<(List.replicate n (0:Int)).length
  rw[List.length_replicate];omega
 ·have hi':i<n:=hi
  show (List.replicate n (0:Int))[n-1-i]?=some 0
  rw[List.getElem?_replicate,if_pos (by omega)]
 ·have hi':i<n:=hi
  have hj':j<n:=hj;rw[hb i hi',hb j hj']at q;have:=Option.some.inj q;omega
 ·have hs':s<n:=by simpa [Qq] using hs
  simp[Qq,hs']
 ·show ((1:Nat):Int)<=(g:Int);omega
 ·show (g:Int)<=_;omega
 ·simp[Qq,lk]at hx
 ·simp[Qq]
 ·simp[Qq]
 ·simp[Qq];omega
noncomputable def Db(p:AR × List Ro)(s:B8):AR × List Ro:=((wrV (QR s) p.1).1,p.2++[(wrV (QR s) p.1).2.1])
noncomputable def Jw(texts:List B8):AR × List Ro:=texts.foldl Db (Qq 1500 3,[])
theorem F9(l:List B8)(s:B8):Jw (l++[s])=Db (Jw l) s:=by unfold Jw;rw[List.foldl_append];rfl
def Rts(N:ZC)(ros:List Ro)(ss:List B8):Prop:=ros.length=ss.length/\∀(i:Nat) (ro:Ro) (s:B8),ros[i]?=some ro->ss[i]?=some s->Rt N ro s
theorem Rts.ext{N M:ZC}(hN:GoodN N)(hE:Ext N M){ros:List Ro}{ss:List B8}(h:Rts N ros ss):Rts M ros ss:=⟨h.1,fun i ro s h1 h2=>(h.2 i ro s h1 h2).ext hN hE⟩
theorem Rts.snoc{N:ZC}{ros:List Ro}{ss:List B8}(h:Rts N ros ss){ro:Ro}(g:Rt N ro s):Rts N (ros++[ro]) (ss++[s]):=by
 refine⟨by simp[h.1],fun i r t h1 h2=>?_⟩;rcases Nat.lt_or_ge i ros.length with q|q
 ·rw[jL q]at h1
  rw[jL (by rw[<- h.1];exact q)]at h2;exact h.2 i r t h1 h2
 ·rw[List.getElem?_append_right q]at h1
  rw[List.getElem?_append_right (by rw[<- h.1];exact q)]at h2;rw[<- h.1]at h2
  match hk:i-ros.length with
  | 0=>rw[hk]at h1 h2;obtain rfl:=Option.some.inj h1;obtain rfl:=Option.some.inj h2;exact g
  | n+1=>rw[hk]at h1;simp at h1
structure LaidOk(texts:List B8)(p:AR × List Ro):Prop where
 ok:AROk p.1
 good:GoodN p.1.nodes
 rts:Rts p.1.nodes p.2 texts
 room:1500<=p.1.n+texts.flatten.length
theorem F_{l:List B8}{p:AR × List Ro}(h:LaidOk l p)(hl:(l++[s]).flatten.length<=900):nw (QR s)<=p.1.n/\LaidOk (l++[s]) (Db p s):=by
 have hfl:(l++[s]).flatten.length=l.flatten.length+s.length:=by simp
 have hr:=h.room;have hs:s.length<=65536:=by omega
 obtain⟨b1,b2,b3⟩:=YY h.good hs;have hw:=Zvp h.good b1;rw[b3]at hw;have hn:nw (QR s)<=p.1.n:=by omega
 obtain⟨w1,w2⟩:=CI (Yq [] [] [] p.1) h.ok h.good b1 (by rw[b3];omega) hn;rw[b2]at w2;refine⟨hn,w1.ok,w1.good,(h.rts.ext h.good w1.ext).snoc w2,?_⟩;have:=w1.n;show 1500<=(wrV (QR s) p.1).1.n+_
 omega
theorem GA(texts:List B8)(hl:texts.flatten.length<=900):∀i,i<=texts.length->LaidOk (texts.take i) (Jw (texts.take i)):=by
 intro i;induction i with
 | zero=>intro _;exact⟨OU 1500 3 (by omega) (by omega),IG,⟨rfl,fun i ro s h=>by simp[Jw]at h⟩,by simp[Jw,Qq]⟩
 | succ i ih =>
  intro hi;obtain⟨s,hs⟩:∃s,texts[i]?=some s:=⟨texts[i]'(by omega),by simp[show i<texts.length by omega]⟩
  rw[ZF hs,F9];refine (F_ (ih (by omega)) ?_).2;rw[<- ZF hs];have:=Cp texts (i+1);omega
def Bp(l:List Ro):List Blk:=l.map fun r=>Blk.arr 5 0 [r.av]
theorem Zun(texts:List B8)(hl:texts.flatten.length<=900)(h4:texts.length<=4)(A:List (Bool × List Blk))(L0:List Blk):
 S Tb Yl [.lit (texts.map .str)] ⟨A,false,L0⟩=some (.tup [.ptr A.length (L0.length+5) 0 0 0,.ref A.length (L0.length+6) texts.length 0 texts.length,.bool true],⟨A,false,L0++(arB A.length L0.length (Jw texts).1++(.arr 5 texts.length ((Jw texts).2.map Ro.av)::Bp (Jw texts).2))⟩):=by
 refine X4 Y ?_;have hN:=UB 1500 3 (by omega) (by omega) A L0;repeat'(first|refine Nx ?_|refine ruS Y ?_|refine isS Y ?_|refine ZO ?_|refine cm0 Y Y Y ?_ ?_|(intro _;try omega)|refine Qc Y Y Y Y ?_|refine ZA Y Y Y (hN) ?_)
 all_goals try contradiction
 have e7:(L0++[(Qq 1500 3).b0,(Qq 1500 3).b1,(Qq 1500 3).b2,(Qq 1500 3).b3 A.length L0.length,(Qq 1500 3).b4,(Qq 1500 3).b5 A.length L0.length]).length=L0.length+6:=by simp
 rw[e7]
 refine Ze (α:=Nat) (fun i=>[(0,.lit (texts.map .str)),(5,.ptr A.length (L0.length+5) 0 0 0),(7,.ref A.length (L0.length+6) i 0 i),(8,.int .i64 i)])
  (fun i=>⟨A,false,L0++(arB A.length L0.length (Jw (texts.take i)).1++(.arr 5 i ((Jw (texts.take i)).2.map Ro.av)::Bp (Jw (texts.take i)).2))⟩) (fun i=>i<=texts.length) (fun i=>texts.length-i) 0 rfl ?_ (by simp) ?_
 ·rw[List.append_assoc];rfl
 rintro i hi;have hok:=GA texts hl i hi;rcases Nat.lt_or_ge i texts.length with hlt|hge
 ·obtain⟨s,hs⟩:∃s,texts[i]?=some s:=⟨texts[i]'(by omega),by simp[show i<texts.length by omega]⟩
  have hfl:=Cp texts (i+1);have htk:(texts.take i++[s]).flatten.length<=900:=by rw[<- ZF hs];omega
  obtain⟨hn,hok2⟩:=F_ hok htk;have h1:=U4 (Yq A L0 (.arr 5 i ((Jw (texts.take i)).2.map Ro.av)::Bp (Jw (texts.take i)).2) (Jw (texts.take i)).1) hok.ok hok.good s (by simp at htk;omega) hn;rw[Ib]at h1;have hV:Jw (texts.take (i+1))=Db (Jw (texts.take i)) s:=by rw[ZF hs,F9]
  unfold Db at hV;have hri:=hok.rts.1;rw[List.length_take,Nat.min_eq_left hi]at hri;generalize Jw (texts.take i)=V at *;generalize wrV (QR s) V.1=W at *;have hx:0<=((i:Nat):Int)/\texts[((i:Nat):Int).toNat]?=some s:=⟨by omega,by rw[show ((i:Nat):Int).toNat=i by omega];exact hs⟩
  obtain⟨L1,hL1⟩:∃L1,L1=L0++(arB A.length L0.length W.1++Blk.arr 5 i (List.map Ro.av V.2)::Bp V.2):=⟨_,rfl⟩;rw[<- hL1]at h1;have g6:L1[L0.length+6]?=some (.arr 5 i (V.2.map Ro.av)):=by rw[hL1,QI];rfl
  repeat'(first|refine QY Y Y hx (fun _=>rfl) ?_|refine ruS Y ?_|refine isS Y ?_|refine ZO ?_|refine Z5 Y ?_|refine QU Y Y Y ?_|refine Zx Y Y ?_|refine cm0 Y Y Y ?_ ?_|(intro _;try omega)|refine Zi Y Y Y ?_|refine Jr Y Y Y Y Y Y ?_|refine Z7 Y Y Y Y ?_|refine ZA Y Y Y (h1) ?_)
  all_goals try first|contradiction|omega
  have h6l:L0.length+6<L1.length:=(List.getElem?_eq_some_iff.1 g6).1;refine BL (es:=V.2.map Ro.av) (ys:=[W.2.1.av]) Y Y (CE g6) (by rw[List.length_map];omega) rfl rfl (by rw[List.length_map,List.length_singleton];omega) (by decide) ?_;repeat'(first|refine Qv ?_|refine isS Y ?_|refine rkS Y ?_|refine ZV Y Y (by omega) ?_)
  refine⟨i+1,⟨rfl,?_⟩,by omega,by omega⟩;simp only[hV];rw[hL1,List.append_assoc,DT];have e8:((V.2++[W.2.1]).map Ro.av)=V.2.map Ro.av++[W.2.1.av]:=by rw[List.map_append];rfl
  have e9:Bp (V.2++[W.2.1])=Bp V.2++[.arr 5 0 [W.2.1.av]]:=by unfold Bp;rw[List.map_append];rfl
  rw[e8,e9];rfl
 ·obtain rfl:i=texts.length:=by omega
  rw[List.take_length];repeat'(first|refine ruS Y ?_|refine isS Y ?_|refine rkS Y ?_|refine Z5 Y ?_|refine cm0 Y Y Y ?_ ?_|(intro _;try omega))
  refine (Jq (.inr Y) Y Y Y Y).trans ?_;rfl
def JF(x n:Int):Int:=(x % 18446744073709551616) % (n+1)
theorem Qk{x n:Int}(h:0<=n):0<=JF x n/\JF x n<=n:=by
 unfold JF;have:=Int.emod_nonneg (x % 18446744073709551616) (show n+1≠0 by omega);have:=Int.emod_lt_of_pos (x % 18446744073709551616) (show 0<n+1 by omega);omega
theorem U5(x:Int):IntKind.u64.wrap x=x % 18446744073709551616:=by
 have e1:IntKind.u64.signed=false:=rfl;have e2:IntKind.u64.bits=64:=rfl;simp only[IntKind.wrap,e1,e2,Bool.false_and,if_false,jB];rfl
theorem Ep(k:Option (List Tr)):(Tr.ownO k).getD []=(k.getD []).map Tr.own:=by
 cases k with
 | none=>rfl
 | some l=>simp[Tr.ownO,Tr.ownL_map]
theorem ZqP(t:Tr):t.own.h=t.h:=by cases t;rfl
theorem Ic(t:Tr):t.own.bytes=t.bytes:=by
 induction t using Tr.ind with
 | step o h m s k ih =>
  rw[Tr.own,Tr.bytes,Tr.bytes,Tr.bytesO_getD,Tr.bytesO_getD,Ep];generalize k.getD []=l at ih
  congr 1
  induction l with
  | nil=>rfl
  | cons a l ih2=>rw[jC,Tr.bytesL,Tr.bytesL,ih a (by simp),ih2 (fun t ht=>ih t (by simp[ht]))]
theorem ZtP(N:ZC)(t:Tr):t.own.txt N=t.txt N:=by
 induction t using Tr.ind with
 | step o h m s k ih =>
  rw[Tr.own,Tr.txt,Tr.txt,Tr.txtO_getD,Tr.txtO_getD,Ep];generalize k.getD []=l at ih
  congr 1
  induction l with
  | nil=>rfl
  | cons a l ih2=>rw[jC,Tr.txtL,Tr.txtL,ih a (by simp),ih2 (fun t ht=>ih t (by simp[ht]))]
theorem ZtQ{N:ZC}(hv:Val N t):Val N t.own:=by
 induction hv with
 | kept h0 hx hok hh hm hk =>
  rw[Tr.own];exact .kept h0 hx hok hh hm (by rw[Ep,hk];rfl)
 | leaf h1 h2 hk =>
  rw[Tr.own];exact .leaf h1 h2 (by rw[Ep,hk];rfl)
 | inner hh h2 h4 hl hb hv ih =>
  rename_i h l;rw[Tr.own,Tr.ownO,Tr.ownL_map];refine .inner hh (by rw[List.length_map];exact h2) (by rw[List.length_map];exact h4) ?_ ?_ ?_
  ·intro t ht
   obtain⟨u,hu,rfl⟩:=List.mem_map.1 ht;rw[ZqP];exact hl u hu
  ·intro t ht q
   obtain⟨u,hu,rfl⟩:=List.mem_map.1 ht;rw[Ic];exact hb u hu q
  ·intro t ht
   obtain⟨u,hu,rfl⟩:=List.mem_map.1 ht;exact ih u hu
theorem U6{N:ZC}(h:VE N t):VE N t.own:=by
 rcases h with h|h
 ·obtain⟨o,h',m,s,k⟩:=t
  obtain⟨h1,h2,h3,h4,h5⟩:=h;exact .inl ⟨h1,h2,h3,h4,by show (Tr.ownO k).getD []=[];rw[Ep];simp only[Tr.ks]at h5;rw[h5];rfl⟩
 ·exact .inr (ZtQ h)
theorem Ie(x n:Int)(h0:0<=n)(h1:n<4611686018427387904)(st:St):S Tb JI [.int .i64 x,.int .i64 n] st=some (.int .i64 (JF x n),st):=by
 have hp:=Qk (x:=x) h0;have hw:IntKind.u64.wrap (n+1)=n+1:=by rw[U5];omega
 have hx:=Int.emod_nonneg x (show (18446744073709551616:Int)≠0 by decide);have hrem:AQ .rem (.int .u64 (IntKind.u64.wrap x)) (.int .u64 (n+1))=some (.int .u64 (JF x n)):=by
  rw[U5];show (if n+1=0 then none else some (AV.int .u64 ((x % 18446744073709551616).tmod (n+1))))=_
  rw[if_neg (by omega),Int.tmod_eq_emod_of_nonneg hx];rfl
 refine Zv Y (fun A hA=>?_);repeat'(first|refine ruS Y ?_|refine isS Y ?_|refine ZO ?_)
 refine cb Y ?_;repeat'(first|refine A6 Y ?_|refine ZV Y Y (by omega) ?_)
 refine HJ Y hw ?_;refine Fa Y Y hrem ?_;refine HJ Y (EK (by omega) (by omega)) ?_;repeat'(first|refine isS Y ?_|refine rkS Y ?_|refine Xz ?_)
 refine ZQ hA (by simp) Y Y Y Y ?_;rfl
structure Ed where
 what:Nat
 n:Int
 at_:Int
 len:Int
 text:B8
def Ed.av(y:Ed):AV:=.agg [.int .u8 y.what,.int .i64 y.n,.int .i64 y.at_,.int .i64 y.len,.str y.text]
def Er(ros:List Ro)(x:Int):Option Ro:=ros[(JF x ((ros.length:Int)-1)).toNat]?
noncomputable def Aq(N:ZC)(ros:List Ro)(y:Ed):Tr :=
 match Er ros y.n with
 | none=>QR y.text
 | some r=>(At N (Yg r) (JF y.at_ r.m.b) (JF y.len (r.m.b-JF y.at_ r.m.b)) y.text).own
theorem ZqR{ros:List Ro}{x:Int}(h:ros≠[]):∃r,Er ros x=some r/\r∈ros/\(JF x ((ros.length:Int)-1)).toNat<ros.length:=by
 have hl:0<ros.length:=List.length_pos_iff.2 h;have:=Qk (x:=x) (n:=(ros.length:Int)-1) (by omega);have hlt:(JF x ((ros.length:Int)-1)).toNat<ros.length:=by omega
 exact⟨ros[(JF x ((ros.length:Int)-1)).toNat]'hlt,by unfold Er;rw[jE hlt],List.getElem_mem _,hlt⟩
theorem Es(r:Ro):Qs r.av true 0 5=some r.av:=by cases r;rfl
theorem JS{O:Orc}{k:List Fr}{Q:JD}{keep:List Nat}{is:List QAbs.PI}{d:Nat}{α:Type}{f:α->AV}{x:Opd}{l:List α}(hx:ZL e x=some (.lit (l.map f)))(h:Is O is keep k Q ((d,.int .i64 l.length)::e) st):Is O (⟨some d,none,false,.len 1 x⟩::is) keep k Q e st:=by
 refine Kw hx ?_;rw[List.length_map];exact h
theorem U7{lv:Nat}{n m:Int}:ZG (ZS ([]++[.ptr lv ix 0 0 0,t.av,.int .i64 n,.int .i64 m,.str s]++[]))=some [.ptr lv ix 0 0 0,t.av,.int .i64 n,.int .i64 m,.str s]:=by
 simp only[lE,lN,lC,ZS,ZH,ZG];rfl
structure PlanOk(N:ZC)(ros:List Ro):Prop where
 rt:∀r∈ros,RtOk N r/\(Yg r).bytes=r.m.b/\0<=r.m.b/\r.m.b<=60000
 len:ros.length<65536
theorem Rts.plan{N:ZC}(hN:GoodN N){ros:List Ro}{ss:List B8}(h:Rts N ros ss)(hl:ros.length<65536)(hs:∀s∈ss,s.length<=60000):PlanOk N ros:=by
 refine⟨fun r hr=>?_,hl⟩;obtain⟨i,hi,rfl⟩:=List.getElem_of_mem hr;have hi2:i<ss.length:=by rw[<- h.1];exact hi
 have g:=h.2 i _ _ (jE hi) (jE hi2);obtain⟨b1,b2⟩:=g.b hN;have:=hs _ (List.getElem_mem hi2);exact⟨g.rt,by rw[b1,b2],by omega,by omega⟩
theorem RtOk.keep{N:ZC}{r:Ro}(h:RtOk N r):VE N (Yg r):=(Rt.keep ⟨h,rfl⟩).1
theorem ZqS{N:ZC}(hN:GoodN N){ros:List Ro}(h:PlanOk N ros){y:Ed}(hy:y.text.length<=200):VE N (Aq N ros y)/\(Aq N ros y).bytes<=60200:=by
 unfold Aq
 match hq:Er ros y.n with
 | none =>
  obtain⟨b1,b2,b3⟩:=YY hN (s:=y.text) (by omega);exact⟨b1,by show (QR y.text).bytes<=_;omega⟩
 | some r =>
  obtain⟨h1,h2,h3,h4⟩:=h.rt r (jM (show ros[_]?=some r from hq));have p1:=Qk (x:=y.at_) h3;have p2:=Qk (x:=y.len) (n:=r.m.b-JF y.at_ r.m.b) (by omega);have:=IF hN (s:=y.text) h1.keep (a:=JF y.at_ r.m.b) (n:=JF y.len (r.m.b-JF y.at_ r.m.b)) p1.1 p2.1 (by omega) (by omega) (by omega);refine⟨U6 this.ve,?_⟩;show (Tr.own _).bytes<=_
  rw[Ic,this.bytes];omega
theorem ZtR{b:Nat}{N:ZC}(hN:GoodN N)(hR:Rd st la (b+5) N){kx lv:Nat}{ros:List Ro}(hg:st.get lv kx=some (.arr 5 ver (ros.map Ro.av)))(hP:PlanOk N ros){ys:List Ed}(hyl:ys.length<65536)(hy:∀y∈ys,y.text.length<=200):
 S Tb X5 [.ptr la (b+5) 0 0 0,.ref lv kx ver 0 ros.length,.lit (ys.map Ed.av)] st=some (.tup [.lit ((ys.map (Aq N ros)).map Tr.av),.bool true],st):=by
 refine Zv Y (fun A hA=>?_);have hr:=fun L=>hR.push hA (ro:=false) (L:=L)
 have gr:=fun L=>ZD hA (ro:=false) (L:=L) hg
 have hwi:∀L,wIs 5 ver (St.get ⟨A,false,L⟩ lv kx)=true:=fun L=>by rw[gr];simp[wIs]
 have hpl:=hP.len;repeat'(first|refine ruS Y ?_|refine isS Y ?_|refine ZO ?_|refine Xk Y ?_)
 refine Ze (α:=Nat × List Blk) (fun q=>[(0,.ptr la (b+5) 0 0 0),(1,.ref lv kx ver 0 ros.length),(2,.lit (ys.map Ed.av)),(8,.ref A.length 0 q.1 0 q.1),(9,.int .i64 q.1)])
  (fun q=>⟨A,false,.arr 7 q.1 (((ys.take q.1).map (Aq N ros)).map Tr.av)::q.2⟩) (fun q=>q.1<=ys.length) (fun q=>ys.length-q.1) (0,[]) rfl rfl (Nat.zero_le _) ?_
 rintro⟨i,G⟩ hi;simp only at hi ⊢;rcases Nat.lt_or_ge i ys.length with hlt|hge
 ·obtain⟨y,hyi⟩:∃y,ys[i]?=some y:=⟨ys[i]'(by omega),by simp[hlt]⟩
  have hy1:=hy y (jM hyi);have hx:0<=((i:Nat):Int)/\ys[((i:Nat):Int).toNat]?=some y:=⟨by omega,by rw[show ((i:Nat):Int).toNat=i by omega];exact hyi⟩
  have hes:(((ys.take i).map (Aq N ros)).map Tr.av).length=i:=by simp;omega
  have hfin:∀c,Aq N ros y=c->((ys.take (i+1)).map (Aq N ros)).map Tr.av=((ys.take i).map (Aq N ros)).map Tr.av++[c.av]:=fun c hc=>by
   rw[ZF hyi,List.map_append,List.map_append,<- hc];rfl
  generalize hES:((ys.take i).map (Aq N ros)).map Tr.av=es at *;have e0:(⟨A,false,.arr 7 i es::G⟩:St)=⟨A,false,(.arr 7 i es::G)++[]⟩:=by rw[lN]
  rw[e0];by_cases hros:ros=[]
  ·have hc:=hfin (QR y.text) (by unfold Aq;rw[show Er ros y.n=none by subst hros;rfl])
   have h0:(ros.length:Int)=0:=by rw[hros];rfl
   have hBu:=fun st=>Ny hN y.text (by omega) st
   generalize QR y.text=c at *;repeat'(first|refine JS Y ?_|refine Z6 Y ?_|refine QY Y Y hx (fun _=>rfl) ?_|refine XM Y Y Y Y Y ?_|refine As Y Y Y (Zb _) ?_|refine CA Y Y Y Y (Z9 _ _ _) (Qg _ _) Y ?_|refine Ee Y ?_|refine ruS Y ?_|refine isS Y ?_|refine ZO ?_|refine Zx Y Y ?_|refine cm0 Y Y Y ?_ ?_|(intro _;try omega)|refine zA0 Y Y (hBu _) ?_)
   all_goals try first|contradiction|omega
   refine BL (es:=es) (ys:=[c].map Tr.av) Y Y Y hes.symm (Yu _) (Fq _ _ _) (by rw[hes,List.length_map,List.length_singleton];omega) (by decide) ?_;repeat'(first|refine ruS Y ?_|refine isS Y ?_|refine rkS Y ?_|refine ZV Y Y (by omega) ?_)
   refine⟨(i+1,G++[.arr 7 0 [c.av]]),⟨rfl,?_⟩,by simp only;omega,by simp only;omega⟩;simp only[hc];rfl
  ·obtain⟨r,hr1,hr2,hr3⟩:=ZqR (x:=y.n) hros
   have hc:=hfin (At N (Yg r) (JF y.at_ r.m.b) (JF y.len (r.m.b-JF y.at_ r.m.b)) y.text).own (by unfold Aq;rw[hr1]);obtain⟨h1,h2,h3,h4⟩:=hP.rt r hr2;have hl0:0<ros.length:=List.length_pos_iff.2 hros;have pn:=Qk (x:=y.n) (n:=(ros.length:Int)-1) (by omega);have p1:=Qk (x:=y.at_) h3;have p2:=Qk (x:=y.len) (n:=r.m.b-JF y.at_ r.m.b) (by omega);have hN1:=fun st=>Ie y.n ((ros.length:Int)-1) (by omega) (by omega) st
   have hN2:=fun st=>Ie y.at_ r.m.b (by omega) (by omega) st
   have hN3:=fun st=>Ie y.len (r.m.b-JF y.at_ r.m.b) (by omega) (by omega) st
   have hK:=fun L=>IU (hr L) h1
   have hRe:=fun L=>UK hN (hr L) (s:=y.text) h1.keep (a:=JF y.at_ r.m.b) (n:=JF y.len (r.m.b-JF y.at_ r.m.b)) p1.1 p2.1 (by omega) (by omega) (by omega)
   have gr2:(ros.map Ro.av)[0+(JF y.n ((ros.length:Int)-1)).toNat]?=some r.av:=by
    rw[Nat.zero_add,jG,show ros[(JF y.n ((ros.length:Int)-1)).toNat]?=some r from hr1];rfl
   generalize (At N (Yg r) (JF y.at_ r.m.b) (JF y.len (r.m.b-JF y.at_ r.m.b)) y.text).own=c at *;generalize Yg r=kt at *;repeat'(first|refine JS Y ?_|refine Z6 Y ?_|refine QY Y Y hx (fun _=>rfl) ?_|refine JH Y Y (by omega) (hwi _) ?_|refine Zk Y (gr _) gr2 (Es _) ?_|refine XM Y Y Y Y Y ?_|refine As Y Y Y Y ?_|refine As Y Y Y (Zb _) ?_|refine CA Y Y Y Y (Z9 _ _ _) (Qg _ _) Y ?_|refine CA Y Y Y Y Y Y Y ?_|refine Ee Y ?_|refine ruS Y ?_|refine isS Y ?_|refine ZO ?_|refine Zx Y Y ?_|refine cm0 Y Y Y ?_ ?_|(intro _;try omega)|refine YH Y Y (by omega) ?_|refine zA0 Y Y (hN1 _) ?_|refine zA0 Y Y (hN2 _) ?_|refine XV Y Y Y (hN3 _) ?_|refine zA0 Y Y (hK _) ?_|refine ZA Y Y U7 (hRe _) ?_)
   all_goals try first|contradiction|omega
   refine BL (es:=es) (ys:=[c].map Tr.av) Y Y Y hes.symm (Yu _) (Fq _ _ _) (by rw[hes,List.length_map,List.length_singleton];omega) (by decide) ?_;repeat'(first|refine Qv ?_|refine isS Y ?_|refine rkS Y ?_|refine ZV Y Y (by omega) ?_)
   refine⟨(i+1,G++[.arr 5 0 [r.av],.arr 7 0 [c.av]]),⟨rfl,?_⟩,by simp only;omega,by simp only;omega⟩;simp only[hc];rfl
 ·obtain rfl:i=ys.length:=by omega
  rw[List.take_length];repeat'(first|refine JS Y ?_|refine ruS Y ?_|refine isS Y ?_|refine rkS Y ?_|refine cm0 Y Y Y ?_ ?_|(intro _;try omega))
  all_goals try omega
  exact ES hA (.inr Y) Y Y (by simp) (fun v hv=>by obtain⟨x,_,rfl⟩:=List.mem_map.1 hv;exact Nn 2 x) Y Y
def A8:Nat->List B8->Nat
 | n,[]=>n
 | n,t::ts=>if n<=900 then A8 (n+min t.length 1000) ts else n
def Cq(l:List B8):Prop:=4<l.length\/900<A8 0 l
instance (l:List B8):Decidable (Cq l):=by unfold Cq;infer_instance
theorem If:∀(l:List B8) (n:Nat),n<=A8 n l
 | [],n=>by simp[A8]
 | t::ts,n=>by
  rw[A8];by_cases h:n<=900
  ·rw[if_pos h];have:=If ts (n+min t.length 1000);omega
  ·rw[if_neg h];exact Nat.le_refl _
theorem U8:∀(l:List B8) (n:Nat),A8 n l<=900->n+(l.map List.length).sum<=900
 | [],n,h=>by simpa [A8] using h
 | t::ts,n,h=>by
  rw[A8]at h;by_cases hn:n<=900
  ·rw[if_pos hn]at h
   have h1:=If ts (n+min t.length 1000);have h2:=U8 ts _ h;rw[jC,List.sum_cons];omega
  ·rw[if_neg hn]at h;omega
theorem U9{α:Type}{l:List α}{a:α}(h:l[i]?=some a):l.drop i=a::l.drop (i+1):=by
 obtain⟨h1,h2⟩:=List.getElem?_eq_some_iff.1 h;subst h2;exact List.drop_eq_getElem_cons h1
theorem Zuo(l:List B8)(hb:l.length<9223372036854775808)(hs:∀s∈l,s.length<9223372036854775808)(st:St):S Tb K_ [.lit (l.map .str)] st=some (.bool (decide (Cq l)),st):=by
 refine Zv Y (fun A hA=>?_);repeat'(first|refine ruS Y ?_|refine isS Y ?_|refine ZO ?_)
 refine Ze (α:=Nat × Nat) (fun p=>[(0,.lit (l.map .str)),(3,.int .i64 p.2),(4,.int .i64 p.1)]) (fun p=>⟨A,false,[]⟩) (fun p=>p.1<=l.length/\p.2<=1900/\A8 p.2 (l.drop p.1)=A8 0 l) (fun p=>l.length-p.1) (0,0) Y Y ⟨Nat.zero_le _,Nat.zero_le _,rfl⟩ ?_;rintro⟨i,n⟩ ⟨h1,h2,h3⟩;simp only at h1 h2 h3 ⊢;repeat'(first|refine ruS Y ?_|refine isS Y ?_|refine rkS Y ?_|refine JQ Y ?_|refine Z5 Y ?_|refine Zx Y Y ?_|refine Jy Y Y (by omega) (fun _=>rfl) (fun _ _=>?_)|refine cm0 Y Y Y ?_ ?_|(intro _;try omega)|refine HK Y Y ?_)
 ·rename_i hlt hn x hx
  have hx':l[i]?=some x:=by rw[show i=((i:Nat):Int).toNat by omega];exact hx
  have hxl:=hs x (jM hx');have e1:(if false=true then max (x.length:Int) 1000 else min (x.length:Int) 1000)=((min x.length 1000:Nat):Int):=by
   simp only[jB,if_false];omega
  rw[e1];refine ZV Y Y (by omega) ?_;rw[show (n:Int)+((min x.length 1000:Nat):Int)=((n+min x.length 1000:Nat):Int) by omega];repeat'(first|refine Qv ?_|refine isS Y ?_|refine rkS Y ?_|refine ZV Y Y (by omega) ?_)
  refine⟨(i+1,n+min x.length 1000),⟨rfl,rfl⟩,⟨by simp only;omega,by simp only;omega,?_⟩,by simp only;omega⟩;rw[<- h3,U9 hx',A8,if_pos (by omega)]
 ·refine Bj hA (by simp) Y Y ?_
  exact (decide_eq_true (.inl (by omega))).symm
 ·refine Bj hA (by simp) Y Y ?_
  refine (decide_eq_true (.inr ?_)).symm;have:=If (l.drop i) n;omega
 ·refine Bj hA (by simp) Y Y ?_
  exact (decide_eq_true (.inl (by omega))).symm
 ·refine Bj hA (by simp) Y Y ?_
  refine (decide_eq_true (.inr ?_)).symm;have:=If (l.drop i) n;omega
 ·refine Bj hA (by simp) Y Y ?_
  refine (decide_eq_false ?_).symm;have:l.drop i=[]:=List.drop_eq_nil_of_le (by omega);rw[this,A8]at h3;rintro (h|h)<;>omega
def Dd(l:List Ed):Prop:=(∃s∈l.take 100,200<s.text.length)\/60<l.length
open Classical in
noncomputable instance (l:List Ed):Decidable (Dd l):=Classical.propDecidable _
theorem ZqT(l:List Ed)(hb:l.length<9223372036854775808)(hs:∀s∈l,s.text.length<9223372036854775808)(st:St):S Tb LA [.lit (l.map Ed.av)] st=some (.bool (decide (Dd l)),st):=by
 refine Zv Y (fun A hA=>?_);repeat'(first|refine ruS Y ?_|refine isS Y ?_|refine ZO ?_)
 refine Ze (α:=Nat) (fun i=>[(0,.lit (l.map Ed.av)),(3,.int .i64 i)]) (fun p=>⟨A,false,[]⟩) (fun i=>i<=l.length/\i<=100/\∀j s,j<i->l[j]?=some s->s.text.length<=200) (fun i=>l.length-i) 0 Y Y ⟨Nat.zero_le _,Nat.zero_le _,fun j s h=>by omega⟩ ?_;rintro i ⟨h1,h2,h3⟩;have key:∀ {j:Nat} {s:Ed},(l.length:Int)<=i\/100<=(i:Int)->s∈l.take 100->s.text.length<=200:=by
  intro j s hi hm;obtain⟨j,hj⟩:=List.mem_iff_getElem?.1 hm;have hj1:=(List.getElem?_eq_some_iff.1 hj).1;rw[List.length_take]at hj1;rw[List.getElem?_take,if_pos (by omega)]at hj;exact h3 j s (by omega) hj
 repeat'(first|refine ruS Y ?_|refine isS Y ?_|refine rkS Y ?_|refine JQ Y ?_|refine Z5 Y ?_|refine Zx Y Y ?_|refine Jy Y Y (by omega) (fun _=>rfl) (fun _ _=>?_)|refine cm0 Y Y Y ?_ ?_|(intro _;try omega)|refine ZV Y Y (by omega) ?_)
 ·rename_i hlt hn s hs' hbig
  have hs1:l[i]?=some s:=by rw[show i=((i:Nat):Int).toNat by omega];exact hs'
  refine Bj hA (by simp) Y Y ?_;refine (decide_eq_true (.inl ⟨s,?_,by omega⟩)).symm;refine List.mem_iff_getElem?.2 ⟨i,?_⟩;rw[List.getElem?_take,if_pos (by omega)];exact hs1
 ·rename_i hlt hn s hs' hbig
  have hs1:l[i]?=some s:=by rw[show i=((i:Nat):Int).toNat by omega];exact hs'
  refine⟨i+1,⟨rfl,rfl⟩,⟨by omega,by omega,fun j s2 hj h=>?_⟩,by omega⟩;rcases Nat.lt_or_ge j i with q|q
  ·exact h3 j s2 q h
  ·obtain rfl:j=i:=by omega
   rw[hs1]at h;have:=Option.some.inj h;subst this;omega
 ·refine Bj hA (by simp) Y Y ?_
  exact (decide_eq_true (.inr (by omega))).symm
 ·refine Bj hA (by simp) Y Y ?_
  exact (decide_eq_true (.inr (by omega))).symm
 ·refine Bj hA (by simp) Y Y ?_
  refine (decide_eq_false ?_).symm;rintro (⟨s,h,hh⟩|h)
  ·have:=key (j:=0) (s:=s) (.inl (by omega)) h
   omega
  ·omega
theorem ZqU{l:List Ed}(h:¬ Dd l):l.length<=60/\∀s∈l,s.text.length<=200:=by
 have h1:l.length<=60:=by
  rcases Nat.lt_or_ge 60 l.length with q|q
  ·exact absurd (.inr q) h
  ·exact q
 refine⟨h1,fun s hs=>?_⟩;rcases Nat.lt_or_ge 200 s.text.length with q|q
 ·refine absurd (.inl ⟨s,?_,q⟩) h
  rw[List.take_of_length_le (by omega)];exact hs
 ·exact q
theorem ZqV{l:List B8}(h:¬ Cq l):l.length<=4/\(l.map List.length).sum<=900:=by
 have h1:¬ 4<l.length:=fun q=>h (.inl q)
 have h2:¬ 900<A8 0 l:=fun q=>h (.inr q)
 have:=U8 l 0 (by omega);exact⟨by omega,by omega⟩
end Go.Q15
namespace Go.QAbs
variable {a cv:AV}{ro:Bool}{e:Env}{f:FuncId}{A:List (Bool × List Blk)}{args caps cls cs:LV}{l:List Nat}{s:B8}{i ip ix j la mx n ob ox rx ver wb:Nat}{st:St}
section
variable {O:Orc}{k:List Fr}{Q:JD}{e:Env}{A:List (Bool × List Blk)}{L:List Blk}{keep:List Nat}{is:List PI}{d:Nat}{st:St}{ks:List (Nat × Nat)}{b0 bs:List Blk}
theorem ZqW{kk:Nat}{x i:Opd}{lv:Nat}{ki:AV}{es es':List (AV × AV)}(H:Cl st ks b0)(hA:A=(Qo st ks bs).ps)(hl:bs.length=ks.length)(hn:bs.all noH=true)(hj:ks[j]?=some (lv,ix))(hb:bs[j]?=some (.map es))
 (hx:ZL e x=some (.map lv ix)) (hi:ZL e i=some ki) (hki:Jh kk ki=true) (hp:Af ki es=some es')
 (h:∀A',A'=(Qo st ks (bs.set j (.map es'))).ps->A'.length=A.length->Is O is keep k Q e ⟨A',false,L⟩):Is O (⟨none,none,false,.mdel kk x i⟩::is) keep k Q e ⟨A,false,L⟩:=by
 have hP:=H.put hl hn;have hg:=hP.get j lv ix _ hj hb;have hw:=hP.wr (lv,ix) (jM hj);have hle:=St.get_le hg;refine Zm (od:=none) (v:=.tup []) (st':=St.upd ⟨A,false,L⟩ lv ix (.map es')) ?_ ?_
 ·simp only[ZW,evalPO,ZB hx,ZB hi,BB,hki,if_true,oS,ZD hA hg,AA,hp,St.put_upd (Yj hA hle hw) (ZD hA hg),Dl]
 ·rw[JE hA hle]
  refine h _ ?_ ?_
  ·rw[Bn H.nd hl hj]
  ·rw[hA];simp[DN,St.upd_A]
theorem ZqX{s x:Opd}{lv w bytes m:Nat}{es ys:LV}{vx:AV}(H:Cl st ks b0)(hA:A=(Qo st ks bs).ps)(hl:bs.length=ks.length)(hn:bs.all noH=true)(hj:ks[j]?=some (lv,ix))(hb:bs[j]?=some (.arr w ver es))(hm:m<=es.length)
 (hs:ZL e s=some (.ref lv ix ver 0 m)) (hx:ZL e x=some vx) (hy:elems ⟨A,false,L⟩ vx=some ys) (hw:Qy w ys=true) (hsl:mapSt (ZI Zs (lv+1)) ⟨A,false,L⟩ ys=some (ys,⟨A,false,L⟩)) (hlen:m+ys.length<4294967296) (hby:bytes<=4096)
 (h:∀A',A'=(Qo st ks (bs.set j (.arr w (ver+1) (es.take m++ys)))).ps->A'.length=A.length->Is O is keep k Q ((d,.ref lv ix (ver+1) 0 (m+ys.length))::e) ⟨A',false,L⟩) :
 Is O (⟨some d,none,false,.app w bytes s x⟩::is) keep k Q e ⟨A,false,L⟩:=by
 have hP:=H.put hl hn;have hg:=hP.get j lv ix _ hj hb;have hwr:=hP.wr (lv,ix) (jM hj);have hlv:=St.get_le hg;refine Zm (v:=.ref lv ix (ver+1) 0 (m+ys.length)) (st':=St.upd ⟨A,false,L⟩ lv ix (.arr w (ver+1) (es.take m++ys))) ?_ ?_
 ·have hg':=ZD hA (ro:=false) (L:=L) hg
  have hw':=Yj hA hlv hwr (ro:=false) (L:=L);simp only[ZW,evalPO,ZB hs,ZB hx,hy,oS,Q8,hw,if_true,hsl,BX,hg',Ag,true_and,if_pos (show 0+m<=es.length/\m+ys.length<4294967296/\bytes<=4096 by omega),List.drop_zero];rw[St.put_upd hw' hg'];rfl
 ·rw[JE hA hlv]
  refine h _ ?_ ?_
  ·rw[Bn H.nd hl hj]
  ·rw[hA];simp[DN,St.upd_A]
end
end Go.QAbs
namespace Go.Q15
open Go Go.QAbs
variable {r':AR}{a cv:AV}{ro:Bool}{e:Env}{f:FuncId}{it:It}{c:ItC}{A:List (Bool × List Blk)}{args caps cls cs:LV}{l:List Nat}{s:B8}{i ip ix j la mx n ob ox rx ver wb:Nat}{x:Nd}{st:St}{t:Tr}
end Go.Q15
