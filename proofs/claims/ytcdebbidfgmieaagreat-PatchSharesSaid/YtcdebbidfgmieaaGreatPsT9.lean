/- A part of the proof: RS, RQ, RT, RU, RV, M18, PO, RW, RX, W9, SB, SC, RY, RZ, SD, SE, SF, SG, SI, SJ, SK, SL, SN, SO, SPa, SSa, SSb, SSc, PDa, PDb, SSd, SSe, SSf, SSg, SSh, SSi, SSj, SSk, SPb, SPc, SPd, SQa, SQb, SQc, SQd, SQe, SSl, SQf, SQg, SQh, SSm, SSn, ESa, ESb, ESc, ESd, ESe, STc, STd, ESg, PSj, PEa, CUa, W10, SKa, SKb, SKc. No condition. -/
import Derived.Test.YtcdebbidfgmieaaGreatPsT8
set_option linter.unusedVariables false
set_option linter.unusedSimpArgs false
set_option maxHeartbeats 16000000
set_option maxRecDepth 100000
namespace Go.Q15
open Go Go.QAbs
variable {w:AV}{e:Env}{g:FuncId}{a z:Int}{Q:J0}{A:List (Bool × List Blk)}{caps:LV}{k:List Fr}{l:List Nat}{s s0:B8}{d i ix la lm mx n o ver:Nat}{O:Orc}{ro x:Ro}{st:St}{t:Tr}
theorem Zh7:∀l:List Tr,(∀t∈l,4*(t.cnt:Int)+4<=t.bytes)->4*(Tr.cntL l:Int)+4*l.length<=Tr.bytesL l
 | [],_=>by simp[Tr.cntL,Tr.bytesL]
 | t::l,h=>by
  have h1:=h t (by simp)
  have h2:=Zh7 l fun u hu=>h u (by simp[hu])
  simp only[Tr.cntL,Tr.bytesL,List.length_cons];omega
theorem Zn4{N:ZJ}(hN:GoodN N)(hv:Val N t):(t.cnt:Int)<=t.bytes/\(Big t->4*(t.cnt:Int)+4<=t.bytes):=by
 have hsz:=hv.size hN;have hps:=hv.pos.2
 induction hv with
 | @kept o h m k x h0 hx hok hh hm hk =>
  have ec:(Tr.mk o h m [] k).cnt=0:=by rw[Tr.cnt,Tr.cntO_getD,hk,if_neg h0];rfl
  have hl:h<=16:=by
   rcases hok with q|⟨n,ks,q⟩
   ·rw[<- hh,q.h];omega
   ·have:=q.n15;have e:=q.eq;subst e;simp only at hh;omega
  rw[ec]
  refine⟨by omega,fun q=>?_⟩
  have h1:=hsz q;have h2:=(ZEN hl).1;simp only[Tr.h]at h1;omega
 | @leaf s k h1 h2 hk =>
  have ec:(Tr.mk 0 0 .zero s k).cnt=1:=by rw[Tr.cnt,Tr.cntO_getD,hk];rfl
  rw[ec]
  refine⟨by omega,fun q=>?_⟩
  have:=q rfl
  omega
 | @inner h l hh h2 h4 hl hb hv ih =>
  have ec:(Tr.mk 0 (h+1) .zero [] (some l)).cnt=Tr.cntL l+1:=by rw[Tr.cnt,Tr.cntO];simp;omega
  have eb:(Tr.mk 0 (h+1) .zero [] (some l)).bytes=Tr.bytesL l:=by rw[Tr.bytes,Tr.bytesO];simp[Mea.zero]
  have:=Zh7 l fun u hu=>(ih u hu ((hv u hu).size hN) (hv u hu).pos.2).2 (fun q=>hb u hu (by rw[<- hl u hu];exact q))
  rw[ec,eb]
  exact⟨by omega,fun _=>by omega⟩
theorem Zsr{N:ZJ}(hN:GoodN N)(hv:VE N t):(nw t:Int)<=t.bytes:=by
 rcases hv with he|hv
 ·unfold nw;rw[if_pos ⟨he.old,he.h,he.text⟩,he.bytes];decide
 ·rw[ZFj hv];exact (Zn4 hN hv).1
theorem Zjf{L:List Blk}{b:Nat}{r:AR}(hA:HasR ⟨A,false,L⟩ la b r)(hN:r.n<=r.blk.length)(h16:r.states.length<=16384)(h6:r.n<65536)(hg:GoodN r.nodes)(hv:VE r.nodes t)(hb:t.bytes<=65536)(hn:r.n<nw t):
 S Tb XQ [.ptr la (b+5) 0 0 0,t.av] ⟨A,false,L⟩=some (.tup [.nilptr,.int .i64 6],⟨A,false,L++[.arr 7 0 [t.av]]⟩):=by
 have hv:Val r.nodes t:=by
  rcases hv with he|hv
  ·unfold nw at hn;rw[if_pos ⟨he.old,he.h,he.text⟩]at hn;omega
  ·exact hv
 rw[ZFj hv]at hn;have hcb:=(Zn4 hg hv).1
 have hCk:=fun T=>ZRc (hA.app T).rd hv hb
 have hNw:=fun st=>ZrJ hv (by omega) st
 have hSt:=fun T=>Zf4 (hA.app T) hN h16 h6
 unfold AR.statsAV at hSt;refine ZAM Y ?_
 have e0:(⟨A,false,L⟩:St)=⟨A,false,L++[]⟩:=by rw[lN]
 rw[e0]
 repeat'(first|refine Yx Y (Z0 _) (QA _) Y Y ?_|refine ZAe Y Y Y (Zk _) ?_|refine ZE ?_|refine ZD ?_|refine ZG Y ?_|refine ZB Y ?_|refine ZC ?_|refine ZWs (agg:=false) Y Y ?_|(refine cm0 Y Y Y ?_ ?_<;>intro _<;>try omega)|(refine cm0 Y Y Y ?_ ?_<;>intro _<;>try omega)|refine ZW Y ?_|refine ZH Y ?_|refine ZA Y Y (by first|rfl|(simp only[lE,lN,lC,ZY,ZS,ZV];first|done|rfl)) (hCk _) ?_|refine ZA Y Y (by first|rfl|(simp only[lE,lN,lC,ZY,ZS,ZV];first|done|rfl)) (hNw _) ?_|refine ZA Y Y (by first|rfl|(simp only[lE,lN,lC,ZY,ZS,ZV];first|done|rfl)) (hSt _) ?_|refine ZI ?_|refine ZQ ?_|refine ZO ?_|refine Za ?_)
 all_goals try omega
 refine (YO (.inr Y) Y Y Y Y).trans ?_;rfl
theorem ZZ9{b:Nat}{r:AR}(hA:Has st la b r)(ho:AROk r)(hg:GoodN r.nodes)(hv:VE r.nodes t)(hb:t.bytes<=65536)(hn:r.n<nw t):
 S Tb Ye [.ptr la (b+5) 0 0 0,t.av] st=some (.tup [Ro.zero.av,.lit [],.int .i64 6],st):=by
 refine ZAc Y (fun A hA'=>?_)
 have hS:=fun L=>Zjf (L:=L) (hA.push hA').r ho.nb ho.n16 (by have:=ho.nn;have:=ho.n16;omega) hg hv hb hn
 repeat'(first|refine ZE ?_|refine ZD ?_|refine ZG Y ?_|refine Zs Y Y ?_|refine ZB Y ?_|refine ZC ?_|(refine cm0 Y Y Y ?_ ?_<;>intro _<;>try omega)|refine ZW Y ?_|refine Zq Y Y Y ?_|refine Ze Y Y Y ?_|refine Zr Y Y Y Y Y Y ?_|refine ZBz Y ?_|refine ZP Y Y Y (Zk _) ?_|refine Zx Y (Z0 _) (QA _) ?_|refine ZA Y Y (by first|rfl|(simp only[lE,lN,lC,ZY,ZS,ZV];first|done|rfl)) (hS _) ?_|refine ZQ ?_|refine ZO ?_|refine Za ?_)
 all_goals try first|contradiction|omega
 exact Znq (ro:=.zero) (l:=[]) hA' (.inr Y) Y Y Y Y Y Y
theorem Zh8{x:B8}{l:List B8}(h:l[i]?=some x):(l.take (i+1)).flatten=(l.take i).flatten++x:=by
 rw[List.take_add_one,h];simp
theorem ZV0(l:List B8)(i:Nat):(l.take i).flatten.length<=l.flatten.length:=by
 have:=congrArg List.length (congrArg List.flatten (List.take_append_drop i l))
 rw[List.flatten_append,lL]at this;omega
theorem PI.ok{r:AR}(ho:AROk r)(hg:GoodN r.nodes)(hv:VE r.nodes t)(hb:t.bytes<=65536)(hn:nw t<=r.n){its:List It}{rx:Nat}{ρ:Nat->Ro}(h:PI t its rx ρ):
 WrB r (nw t) (wrV t r).1 (wrV t r).2.2/\(IsEmpty t/\(wrV t r).2.1=.zero\/Val r.nodes t/\WrOk r.nodes t (wrV t r).1 (wrV t r).2.1):=by
 rcases h with⟨h1,_,h2⟩|⟨⟨M,hM⟩,R,h1,h2,h3⟩
 ·have e:nw t=0:=by unfold nw;rw[if_pos ⟨h1.old,h1.h,h1.text⟩]
  rw[ZRk h1,e];exact⟨.refl ho hg,.inl ⟨h1,rfl⟩⟩
 ·rcases hv with hv|hv
  ·exact absurd hv hM.not_empty
  ·rw[ZVv hv,ZFj hv]
   rw[ZFj hv]at hn;obtain⟨ρ',a1,a2,a3,a4,a5⟩:=exec_ok hg hv hb r ho hg (.refl _) hn rx its R ρ h1 h2 h3;exact⟨a4,.inr ⟨hv,a5⟩⟩
theorem Zn5{b:Nat}{r:AR}(hA:Has st la b r)(ho:AROk r)(hg:GoodN r.nodes)(hv:VE r.nodes t)(hb:t.bytes<=65536)(hn:nw t<=r.n):
 WrB r (nw t) (wrV t r).1 (wrV t r).2.2/\(IsEmpty t/\(wrV t r).2.1=.zero\/Val r.nodes t/\WrOk r.nodes t (wrV t r).1 (wrV t r).2.1):=by
 obtain⟨L2,tx,ver,cs,its,F,keys,rx,ρ,hS,hB⟩:=Zka (L:=[]) (hA.push rfl).r ho.nb ho.n16 (by have:=ho.nn;have:=ho.n16;omega) hv hb hn
 exact hB.pi.ok ho hg hv hb hn
def ZaA(N:ZJ)(r:Ro):B8:=if r.at_=0 then [] else Qd N r.h r.at_
structure Rt(N:ZJ)(r:Ro)(s:B8):Prop where
 rt:RtOk N r
 tx:ZaA N r=s
theorem RtOk.ext{N M:ZJ}(hE:Ext N M){r:Ro}(h:RtOk N r):RtOk M r:=h.imp id fun ⟨h0,x,h1,h2⟩=>⟨h0,x,hE _ _ h1,h2⟩
theorem Rt.ext{N M:ZJ}(hN:GoodN N)(hE:Ext N M){r:Ro}(h:Rt N r s):Rt M r s:=by
 refine⟨h.rt.ext hE,?_⟩;rw[<- h.tx];unfold ZaA
 split
 ·rfl
 ·rename_i q
  rcases h.rt with e|⟨_,x,h1,_,h2,_⟩
  ·rw[e]at q;exact absurd Y q
  ·exact ZI5 hN hE _ _ x h1 h2
theorem Rt.zero(N:ZJ):Rt N .zero []:=⟨.inl rfl,rfl⟩
theorem Rt.m{N:ZJ}(hN:GoodN N){r:Ro}(h:Rt N r s):r.m=YV s:=by
 obtain⟨h,rfl⟩:=h;unfold ZaA
 rcases h with rfl|⟨h0,x,h1,h2,h3,h4⟩
 ·rfl
 ·rw[if_neg h0,ZCQ hN _ _ x h1 h3,h4]
theorem Rt.wr{r:AR}(ho:AROk r){N:ZJ}(h:WrOk N t r ro):Rt r.nodes ro (t.txt N):=by
 obtain⟨y,h1,h2,h3,h4⟩:=h.live;have h0:=(ho.hnd h1).2
 refine⟨.inr ⟨h0,y,h1,h2,by rw[h3,h.rh],by rw[h4,h.rm]⟩,?_⟩
 unfold ZaA;rw[if_neg h0,h.rh,h.txt]
theorem Rt.keep{N:ZJ}{r:Ro}(h:Rt N r s):VE N (YF r)/\(YF r).txt N=s:=by
 obtain⟨h,rfl⟩:=h;unfold ZaA YF
 rcases h with rfl|⟨h0,x,h1,h2,h3,h4⟩
 ·rw[if_pos (by rfl),if_pos (by rfl)];exact⟨.inl zero_empty,rfl⟩
 ·rw[if_neg h0,if_neg h0]
  exact⟨.inr (.kept h0 h1 h2 h3 h4 Y),by rw[Tr.keep,Tr.txt,if_neg h0];simp[Tr.txtO]⟩
theorem Rt.b{N:ZJ}(hN:GoodN N){r:Ro}(h:Rt N r s):(YF r).bytes=s.length/\r.m.b=s.length:=by
 have h1:=h.keep;have h2:=h1.1.len hN;rw[h1.2]at h2
 exact⟨h2.symm,by rw[h.m hN];rfl⟩
theorem ZaB{b:Nat}{r:AR}(hA:Has st la b r)(ho:AROk r)(hg:GoodN r.nodes)(hv:VE r.nodes t)(hb:t.bytes<=65536)(hn:nw t<=r.n):
 WrB r (nw t) (wrV t r).1 (wrV t r).2.2/\Rt (wrV t r).1.nodes (wrV t r).2.1 (t.txt r.nodes):=by
 obtain⟨h1,h2⟩:=Zn5 hA ho hg hv hb hn;refine⟨h1,?_⟩
 rcases h2 with⟨he,h2⟩|⟨hv,h2⟩
 ·rw[h2,he.txt];exact .zero _
 ·exact .wr h1.ok h2
theorem XU(A:List (Bool × List Blk))(L0 T:List Blk)(r:AR):Has ⟨A,false,L0++(arB A.length L0.length r++T)⟩ A.length L0.length r:=by
 have h:∀i b,(arB A.length L0.length r++T)[i]?=some b->vis (some b)=some b->St.get ⟨A,false,L0++(arB A.length L0.length r++T)⟩ A.length (L0.length+i)=some b:=by
  intro i b hb hv;rw[St.get_cur,Qv,hb,hv]
 exact⟨by simp[St.wr],h 0 _ Y Y,h 1 _ Y Y,h 2 _ Y Y,h 3 _ Y Y,h 4 _ Y Y,h 5 _ Y Y⟩
theorem ZOZ(A:List (Bool × List Blk))(L0 T:List Blk)(r r':AR):Qe ⟨A,false,L0++(arB A.length L0.length r++T)⟩ A.length L0.length r'=⟨A,false,L0++(arB A.length L0.length r'++T)⟩:=by
 have h:∀(X:List Blk) (i:Nat) (b:Blk),St.upd ⟨A,false,L0++X⟩ A.length (L0.length+i) b=⟨A,false,L0++X.set i b⟩:=fun X i b=>by
  unfold St.upd;simp only[if_true,ZOH]
 have h0:∀(X:List Blk) (b:Blk),St.upd ⟨A,false,L0++X⟩ A.length L0.length b=⟨A,false,L0++X.set 0 b⟩:=fun X b=>h X 0 b
 simp only[Qe,arK,arB,Qp,h,h0];rfl
theorem ZsA{L:List Blk}{x:Ex}{c4 c5 j4 w4 v4:Nat}(hA:A=st.A++[(st.ro,st.L)])(hx:x=.norm\/x=.ret)(h4:Jy e c4=some (.ptr A.length j4 v4 0 0))(hg4:L[j4]?=some (.arr w4 v4 [ro.av]))
 (h6:Jy e c5=some (.int .i64 z)):JA false [.c c4 true 5,.s c5] (x,e,⟨A,false,L⟩)=some (.tup [ro.av,.int .i64 z],st):=by
 refine ZAr (v:=.tup [ro.av,.int .i64 z]) hA hx ?_ (L':=L) Y Y
 have h1:ZBN ⟨A,false,L⟩ e (.c c4 true 5)=some ro.av:=by
  simp only[ZBN,QL h4,loadP,St.get_cur,hg4,vis,ZFq,if_true,List.getElem?_cons_zero,oS];rfl
 simp only[QT,ZDf,h1,oS];simp only[ZBN,QL h6,oS,Option.map_some,ZFr]
theorem Zkk{b:Nat}{r:AR}(hA:Has st la b r)(ho:AROk r)(hg:GoodN r.nodes)(s:B8)(hs:s.length<=65536)(hn:nw (QX s)<=r.n):
 S Tb ZCj [.ptr la (b+5) 0 0 0,.str s] st=some (.tup [(wrV (QX s) r).2.1.av,.int .i64 0],Qe st la b (wrV (QX s) r).1):=by
 obtain⟨b1,b2,b3⟩:=J5 hg hs
 refine ZAc Y (fun A hA'=>?_)
 have hB:=fun L=>ZVu hg s hs ⟨A,false,L⟩
 have hle:=hA.le
 have hW:=fun L=>ZVw (st:=⟨A,false,L⟩) (hA.push hA') ho hg b1 (by rw[b3];omega) hn
 simp only[ZAF hA' hle]at hW
 generalize (wrV (QX s) r).1=r' at *
 generalize (wrV (QX s) r).2.1=ro at *
 repeat'(first|refine ZE ?_|refine ZD ?_|refine ZG Y ?_|refine Zs Y Y ?_|refine ZB Y ?_|refine ZC ?_|(refine cm0 Y Y Y ?_ ?_<;>intro _<;>try omega)|refine ZH Y ?_|refine Ju Y Y Y Y ?_|refine Ze Y Y Y ?_|refine ZP Y Y Y (Zk _) ?_|refine Zr Y Y Y (Z7 _ _ _) (QQ _ _) Y ?_|refine ZA Y Y (by first|rfl|(simp only[lE,lN,lC,ZY,ZS,ZV];first|done|rfl)) (hB _) ?_|refine ZI ?_)
 all_goals try first|contradiction|omega
 obtain⟨A2,hA2⟩:∃A2,A2=(Qe st la b r').ps:=⟨_,rfl⟩;simp only[<- hA2]at hW
 have hAl:A.length=A2.length:=by rw[hA',hA2];simp[St.ps,ZFf]
 refine ZA Y Y (Zsh Y _) (hW _) ?_;rw[hAl]
 repeat'(first|refine Q0 Y Y Y Y Y Y ?_|refine ZP Y Y Y Y ?_|refine ZE ?_|refine ZD ?_|refine ZG Y ?_|refine Zs Y Y ?_|refine ZB Y ?_|refine ZC ?_|refine Ze Y Y Y ?_|refine ZQ ?_|refine ZO ?_)
 exact ZsA hA2 (.inr Y) Y Y Y
theorem ZaC(n g:Nat)(hn:n<=16384)(hg:1<=g/\g<=4294967295):AROk (JH n g):=by
 have hb:∀i,i<n->(JH n g).blk[i]?=some ((n:Int)-1-i):=fun i hi=>by simp[JH,hi]
 refine⟨by simp[JH],by simp[JH];exact hn,by simp[JH],by simp[JH],fun i hi=>⟨n-1-i,?_,?_,?_⟩,fun i j hi hj q=>?_,fun s hs=>⟨1,?_,by omega,?_⟩,?_,fun h x hx=>?_,?_,?_,?_⟩
 ·have hi':i<n:=hi
  rw[hb i hi'];congr 1
  show (n:Int)-1-i=((n-1-i:Nat):Int)
  omega
 ·have hi':i<n:=hi
  show n-1-i<(List.replicate n (0:Int)).length
  rw[List.length_replicate];omega
 ·have hi':i<n:=hi
  show (List.replicate n (0:Int))[n-1-i]?=some 0
  rw[List.getElem?_replicate,if_pos (by omega)]
 ·have hi':i<n:=hi
  have hj':j<n:=hj;rw[hb i hi',hb j hj']at q
  have:=Option.some.inj q
  omega
 ·have hs':s<n:=by simpa [JH] using hs
  simp[JH,hs']
 ·show ((1:Nat):Int)<=(g:Int);omega
 ·show (g:Int)<=_;omega
 ·simp[JH,lk]at hx
 ·simp[JH]
 ·simp[JH]
 ·simp[JH];omega
noncomputable def ZiA(p:AR × List Ro)(s:B8):AR × List Ro:=((wrV (QX s) p.1).1,p.2++[(wrV (QX s) p.1).2.1])
noncomputable def XZ(texts:List B8):AR × List Ro:=texts.foldl ZiA (JH 1500 3,[])
theorem ZLb(l:List B8)(s:B8):XZ (l++[s])=ZiA (XZ l) s:=by unfold XZ;rw[List.foldl_append];rfl
def Rts(N:ZJ)(ros:List Ro)(ss:List B8):Prop:=ros.length=ss.length/\∀(i:Nat) (ro:Ro) (s:B8),ros[i]?=some ro->ss[i]?=some s->Rt N ro s
theorem Rts.ext{N M:ZJ}(hN:GoodN N)(hE:Ext N M){ros:List Ro}{ss:List B8}(h:Rts N ros ss):Rts M ros ss:=⟨h.1,fun i ro s h1 h2=>(h.2 i ro s h1 h2).ext hN hE⟩
theorem Rts.snoc{N:ZJ}{ros:List Ro}{ss:List B8}(h:Rts N ros ss)(g:Rt N ro s):Rts N (ros++[ro]) (ss++[s]):=by
 refine⟨by simp[h.1],fun i r t h1 h2=>?_⟩
 rcases Nat.lt_or_ge i ros.length with q|q
 ·rw[jL q]at h1
  rw[jL (by rw[<- h.1];exact q)]at h2
  exact h.2 i r t h1 h2
 ·rw[List.getElem?_append_right q]at h1
  rw[List.getElem?_append_right (by rw[<- h.1];exact q)]at h2
  rw[<- h.1]at h2
  match hk:i-ros.length with
  | 0=>rw[hk]at h1 h2;obtain rfl:=Option.some.inj h1;obtain rfl:=Option.some.inj h2;exact g
  | n+1=>rw[hk]at h1;simp at h1
structure LaidOk(texts:List B8)(p:AR × List Ro):Prop where
 ok:AROk p.1
 good:GoodN p.1.nodes
 rts:Rts p.1.nodes p.2 texts
 room:1500<=p.1.n+texts.flatten.length
theorem ZaD{l:List B8}{p:AR × List Ro}(h:LaidOk l p)(hl:(l++[s]).flatten.length<=900):nw (QX s)<=p.1.n/\LaidOk (l++[s]) (ZiA p s):=by
 have hfl:(l++[s]).flatten.length=l.flatten.length+s.length:=by simp
 have hr:=h.room
 have hs:s.length<=65536:=by omega
 obtain⟨b1,b2,b3⟩:=J5 h.good hs;have hw:=Zsr h.good b1;rw[b3]at hw
 have hn:nw (QX s)<=p.1.n:=by omega
 obtain⟨w1,w2⟩:=ZaB (XU [] [] [] p.1) h.ok h.good b1 (by rw[b3];omega) hn
 rw[b2]at w2;refine⟨hn,w1.ok,w1.good,(h.rts.ext h.good w1.ext).snoc w2,?_⟩
 have:=w1.n
 show 1500<=(wrV (QX s) p.1).1.n+_
 omega
theorem ZaE(texts:List B8)(hl:texts.flatten.length<=900):∀i,i<=texts.length->LaidOk (texts.take i) (XZ (texts.take i)):=by
 intro i
 induction i with
 | zero=>intro _;exact⟨ZaC 1500 3 (by omega) (by omega),ZOJ,⟨rfl,fun i ro s h=>by simp[XZ]at h⟩,by simp[XZ,JH]⟩
 | succ i ih =>
  intro hi
  obtain⟨s,hs⟩:∃s,texts[i]?=some s:=⟨texts[i]'(by omega),by simp[show i<texts.length by omega]⟩
  rw[Zb hs,ZLb]
  refine (ZaD (ih (by omega)) ?_).2
  rw[<- Zb hs]
  have:=ZV0 texts (i+1)
  omega
def ZDs(l:List Ro):List Blk:=l.map fun r=>Blk.arr 5 0 [r.av]
theorem ZsB(texts:List B8)(hl:texts.flatten.length<=900)(h4:texts.length<=4)(A:List (Bool × List Blk))(L0:List Blk):
 S Tb Yd [.lit (texts.map .str)] ⟨A,false,L0⟩=some (.tup [.ptr A.length (L0.length+5) 0 0 0,.ref A.length (L0.length+6) texts.length 0 texts.length,.bool true],⟨A,false,L0++(arB A.length L0.length (XZ texts).1++(.arr 5 texts.length ((XZ texts).2.map Ro.av)::ZDs (XZ texts).2))⟩):=by
 refine ZAM Y ?_
 have hN:=ZkU 1500 3 (by omega) (by omega) A L0
 repeat'(first|refine Zhl ?_|refine ZE ?_|refine ZD ?_|refine ZG Y ?_|refine QE Y ?_|refine Zo Y Y Y Y ?_|refine Zs Y Y ?_|refine ZB Y ?_|refine ZC ?_|(refine cm0 Y Y Y ?_ ?_<;>intro _<;>try omega)|refine ZH Y ?_|refine Ju Y Y Y Y ?_|refine ZA Y Y Y (hN) ?_|refine ZI ?_|refine ZL ?_)
 all_goals try contradiction
 have e7:(L0++[(JH 1500 3).b0,(JH 1500 3).b1,(JH 1500 3).b2,(JH 1500 3).b3 A.length L0.length,(JH 1500 3).b4,(JH 1500 3).b5 A.length L0.length]).length=L0.length+6:=by simp
 rw[e7]
 refine Z2 (α:=Nat) (fun i=>[(0,.lit (texts.map .str)),(5,.ptr A.length (L0.length+5) 0 0 0),(7,.ref A.length (L0.length+6) i 0 i),(8,.int .i64 i)])
  (fun i=>⟨A,false,L0++(arB A.length L0.length (XZ (texts.take i)).1++(.arr 5 i ((XZ (texts.take i)).2.map Ro.av)::ZDs (XZ (texts.take i)).2))⟩) (fun i=>i<=texts.length) (fun i=>texts.length-i) 0 rfl ?_ (by simp) ?_
 ·rw[List.append_assoc];rfl
 rintro i hi
 have hok:=ZaE texts hl i hi
 rcases Nat.lt_or_ge i texts.length with hlt|hge
 ·obtain⟨s,hs⟩:∃s,texts[i]?=some s:=⟨texts[i]'(by omega),by simp[show i<texts.length by omega]⟩
  have hfl:=ZV0 texts (i+1)
  have htk:(texts.take i++[s]).flatten.length<=900:=by rw[<- Zb hs];omega
  obtain⟨hn,hok2⟩:=ZaD hok htk
  have h1:=Zkk (XU A L0 (.arr 5 i ((XZ (texts.take i)).2.map Ro.av)::ZDs (XZ (texts.take i)).2) (XZ (texts.take i)).1) hok.ok hok.good s (by simp at htk;omega) hn
  rw[ZOZ]at h1
  have hV:XZ (texts.take (i+1))=ZiA (XZ (texts.take i)) s:=by rw[Zb hs,ZLb]
  unfold ZiA at hV;have hri:=hok.rts.1;rw[List.length_take,Nat.min_eq_left hi]at hri
  generalize XZ (texts.take i)=V at *
  generalize wrV (QX s) V.1=W at *
  have hx:0<=((i:Nat):Int)/\texts[((i:Nat):Int).toNat]?=some s:=⟨by omega,by rw[show ((i:Nat):Int).toNat=i by omega];exact hs⟩
  obtain⟨L1,hL1⟩:∃L1,L1=L0++(arB A.length L0.length W.1++Blk.arr 5 i (List.map Ro.av V.2)::ZDs V.2):=⟨_,rfl⟩;rw[<- hL1]at h1
  have g6:L1[L0.length+6]?=some (.arr 5 i (V.2.map Ro.av)):=by rw[hL1,Qv];rfl
  repeat'(first|refine JD Y Y hx (fun _=>rfl) ?_|refine ZE ?_|refine ZD ?_|refine ZG Y ?_|refine Zs Y Y ?_|refine ZB Y ?_|refine ZC ?_|refine QJ Y ?_|refine Qr Y Y Y ?_|refine QH Y Y ?_|(refine cm0 Y Y Y ?_ ?_<;>intro _<;>try omega)|refine ZW Y ?_|refine ZH Y ?_|refine Zx Y Y Y ?_|refine YA Y Y Y Y Y Y ?_|refine Qc Y Y Y Y ?_|refine ZA Y Y Y (h1) ?_|refine ZI ?_|refine ZL ?_)
  all_goals try first|contradiction|omega
  have h6l:L0.length+6<L1.length:=(List.getElem?_eq_some_iff.1 g6).1
  refine ZCI (es:=V.2.map Ro.av) (ys:=[W.2.1.av]) Y Y (ZAf g6) (by rw[List.length_map];omega) rfl rfl (by rw[List.length_map,List.length_singleton];omega) (by decide) ?_
  repeat'(first|refine ZD ?_|refine ZG Y ?_|refine ZB Y ?_|refine ZC ?_|refine Zm Y Y (by omega) ?_|refine Zz ?_|refine QD ?_)
  refine⟨i+1,⟨rfl,?_⟩,by omega,by omega⟩
  simp only[hV];rw[hL1,List.append_assoc,ZOH]
  have e8:((V.2++[W.2.1]).map Ro.av)=V.2.map Ro.av++[W.2.1.av]:=by rw[List.map_append];rfl
  have e9:ZDs (V.2++[W.2.1])=ZDs V.2++[.arr 5 0 [W.2.1.av]]:=by unfold ZDs;rw[List.map_append];rfl
  rw[e8,e9];rfl
 ·obtain rfl:i=texts.length:=by omega
  rw[List.take_length]
  repeat'(first|refine ZE ?_|refine ZD ?_|refine ZG Y ?_|refine ZB Y ?_|refine ZC ?_|refine QJ Y ?_|(refine cm0 Y Y Y ?_ ?_<;>intro _<;>try omega)|refine ZH Y ?_|refine ZQ ?_|refine Zv ?_|refine ZO ?_|refine Zf ?_|refine Zc Y ?_|refine Zu ?_)
  refine (YO (.inr Y) Y Y Y Y).trans ?_;rfl
def JK(x n:Int):Int:=(x % 18446744073709551616) % (n+1)
theorem Qx{x n:Int}(h:0<=n):0<=JK x n/\JK x n<=n:=by
 unfold JK
 have:=Int.emod_nonneg (x % 18446744073709551616) (show n+1≠0 by omega)
 have:=Int.emod_lt_of_pos (x % 18446744073709551616) (show 0<n+1 by omega)
 omega
theorem ZrP(x:Int):IntKind.u64.wrap x=x % 18446744073709551616:=by
 have e1:IntKind.u64.signed=false:=rfl;have e2:IntKind.u64.bits=64:=rfl;simp only[IntKind.wrap,e1,e2,Bool.false_and,if_false,jB];rfl
theorem ZAy(k:Option (List Tr)):(Tr.ownO k).getD []=(k.getD []).map Tr.own:=by
 cases k with
 | none=>rfl
 | some l=>simp[Tr.ownO,Tr.ownL_map]
theorem Zn6(t:Tr):t.own.h=t.h:=by cases t;rfl
theorem J6(t:Tr):t.own.bytes=t.bytes:=by
 induction t using Tr.ind with
 | step o h m s k ih =>
  rw[Tr.own,Tr.bytes,Tr.bytes,Tr.bytesO_getD,Tr.bytesO_getD,ZAy];generalize k.getD []=l at ih
  congr 1
  induction l with
  | nil=>rfl
  | cons a l ih2=>rw[jC,Tr.bytesL,Tr.bytesL,ih a (by simp),ih2 (fun t ht=>ih t (by simp[ht]))]
theorem Zqn(N:ZJ)(t:Tr):t.own.txt N=t.txt N:=by
 induction t using Tr.ind with
 | step o h m s k ih =>
  rw[Tr.own,Tr.txt,Tr.txt,Tr.txtO_getD,Tr.txtO_getD,ZAy];generalize k.getD []=l at ih
  congr 1
  induction l with
  | nil=>rfl
  | cons a l ih2=>rw[jC,Tr.txtL,Tr.txtL,ih a (by simp),ih2 (fun t ht=>ih t (by simp[ht]))]
theorem Zqo{N:ZJ}(hv:Val N t):Val N t.own:=by
 induction hv with
 | kept h0 hx hok hh hm hk =>
  rw[Tr.own]
  exact .kept h0 hx hok hh hm (by rw[ZAy,hk];rfl)
 | leaf h1 h2 hk =>
  rw[Tr.own]
  exact .leaf h1 h2 (by rw[ZAy,hk];rfl)
 | inner hh h2 h4 hl hb hv ih =>
  rename_i h l
  rw[Tr.own,Tr.ownO,Tr.ownL_map]
  refine .inner hh (by rw[List.length_map];exact h2) (by rw[List.length_map];exact h4) ?_ ?_ ?_
  ·intro t ht
   obtain⟨u,hu,rfl⟩:=List.mem_map.1 ht;rw[Zn6];exact hl u hu
  ·intro t ht q
   obtain⟨u,hu,rfl⟩:=List.mem_map.1 ht;rw[J6];exact hb u hu q
  ·intro t ht
   obtain⟨u,hu,rfl⟩:=List.mem_map.1 ht;exact ih u hu
theorem ZIh{N:ZJ}(h:VE N t):VE N t.own:=by
 rcases h with h|h
 ·obtain⟨o,h',m,s,k⟩:=t
  obtain⟨h1,h2,h3,h4,h5⟩:=h
  exact .inl ⟨h1,h2,h3,h4,by show (Tr.ownO k).getD []=[];rw[ZAy];simp only[Tr.ks]at h5;rw[h5];rfl⟩
 ·exact .inr (Zqo h)
theorem ZgC(x n:Int)(h0:0<=n)(h1:n<4611686018427387904)(st:St):S Tb JN [.int .i64 x,.int .i64 n] st=some (.int .i64 (JK x n),st):=by
 have hp:=Qx (x:=x) h0
 have hw:IntKind.u64.wrap (n+1)=n+1:=by rw[ZrP];omega
 have hx:=Int.emod_nonneg x (show (18446744073709551616:Int)≠0 by decide)
 have hrem:ZDd .rem (.int .u64 (IntKind.u64.wrap x)) (.int .u64 (n+1))=some (.int .u64 (JK x n)):=by
  rw[ZrP]
  show (if n+1=0 then none else some (AV.int .u64 ((x % 18446744073709551616).tmod (n+1))))=_
  rw[if_neg (by omega),Int.tmod_eq_emod_of_nonneg hx];rfl
 refine QK Y (fun A hA=>?_)
 repeat'(first|refine ZE ?_|refine ZD ?_|refine ZG Y ?_|refine ZB Y ?_|refine ZC ?_)
 refine Zp2 Y ?_
 repeat'(first|refine ZG Y ?_|refine Zm Y Y (by omega) ?_)
 refine ZL1 Y hw ?_;refine ZO1 Y Y hrem ?_
 refine ZL1 Y (ZOz (by omega) (by omega)) ?_
 repeat'(first|refine ZG Y ?_|refine ZB Y ?_|refine ZC ?_|refine ZQ ?_|refine ZO ?_)
 refine Zi hA (by simp) Y Y Y Y ?_
 rfl
structure Ed where
 what:Nat
 n:Int
 at_:Int
 len:Int
 text:B8
def Ed.av(y:Ed):AV:=.agg [.int .u8 y.what,.int .i64 y.n,.int .i64 y.at_,.int .i64 y.len,.str y.text]
def Zdn(ros:List Ro)(x:Int):Option Ro:=ros[(JK x ((ros.length:Int)-1)).toNat]?
noncomputable def ZDB(N:ZJ)(ros:List Ro)(y:Ed):Tr :=
 match Zdn ros y.n with
 | none=>QX y.text
 | some r=>(ZBv N (YF r) (JK y.at_ r.m.b) (JK y.len (r.m.b-JK y.at_ r.m.b)) y.text).own
theorem Zn7{ros:List Ro}{x:Int}(h:ros≠[]):∃r,Zdn ros x=some r/\r∈ros/\(JK x ((ros.length:Int)-1)).toNat<ros.length:=by
 have hl:0<ros.length:=List.length_pos_iff.2 h
 have:=Qx (x:=x) (n:=(ros.length:Int)-1) (by omega)
 have hlt:(JK x ((ros.length:Int)-1)).toNat<ros.length:=by omega
 exact⟨ros[(JK x ((ros.length:Int)-1)).toNat]'hlt,by unfold Zdn;rw[jE hlt],List.getElem_mem _,hlt⟩
theorem ZOa(r:Ro):Q3 r.av true 0 5=some r.av:=by cases r;rfl
theorem XH{keep:List Nat}{is:List QAbs.PI}{α:Type}{f:α->AV}{x:Opd}{l:List α}(hx:Zd e x=some (.lit (l.map f)))(h:Is O is keep k Q ((d,.int .i64 l.length)::e) st):Is O (⟨some d,none,false,.len 1 x⟩::is) keep k Q e st:=by
 refine ZeQ hx ?_;rw[List.length_map];exact h
theorem Zkl{lv:Nat}{n m:Int}:ZV (ZY ([]++[.ptr lv ix 0 0 0,t.av,.int .i64 n,.int .i64 m,.str s]++[]))=some [.ptr lv ix 0 0 0,t.av,.int .i64 n,.int .i64 m,.str s]:=by
 simp only[lE,lN,lC,ZY,ZS,ZV];rfl
structure PlanOk(N:ZJ)(ros:List Ro):Prop where
 rt:∀r∈ros,RtOk N r/\(YF r).bytes=r.m.b/\0<=r.m.b/\r.m.b<=60000
 len:ros.length<65536
theorem Rts.plan{N:ZJ}(hN:GoodN N){ros:List Ro}{ss:List B8}(h:Rts N ros ss)(hl:ros.length<65536)(hs:∀s∈ss,s.length<=60000):PlanOk N ros:=by
 refine⟨fun r hr=>?_,hl⟩
 obtain⟨i,hi,rfl⟩:=List.getElem_of_mem hr
 have hi2:i<ss.length:=by rw[<- h.1];exact hi
 have g:=h.2 i _ _ (jE hi) (jE hi2);obtain⟨b1,b2⟩:=g.b hN
 have:=hs _ (List.getElem_mem hi2)
 exact⟨g.rt,by rw[b1,b2],by omega,by omega⟩
theorem RtOk.keep{N:ZJ}{r:Ro}(h:RtOk N r):VE N (YF r):=(Rt.keep ⟨h,rfl⟩).1
theorem Zn8{N:ZJ}(hN:GoodN N){ros:List Ro}(h:PlanOk N ros){y:Ed}(hy:y.text.length<=200):VE N (ZDB N ros y)/\(ZDB N ros y).bytes<=60200:=by
 unfold ZDB
 match hq:Zdn ros y.n with
 | none =>
  obtain⟨b1,b2,b3⟩:=J5 hN (s:=y.text) (by omega)
  exact⟨b1,by show (QX y.text).bytes<=_;omega⟩
 | some r =>
  obtain⟨h1,h2,h3,h4⟩:=h.rt r (jM (show ros[_]?=some r from hq))
  have p1:=Qx (x:=y.at_) h3
  have p2:=Qx (x:=y.len) (n:=r.m.b-JK y.at_ r.m.b) (by omega)
  have:=ZOI hN (s:=y.text) h1.keep (a:=JK y.at_ r.m.b) (n:=JK y.len (r.m.b-JK y.at_ r.m.b)) p1.1 p2.1 (by omega) (by omega) (by omega)
  refine⟨ZIh this.ve,?_⟩
  show (Tr.own _).bytes<=_
  rw[J6,this.bytes];omega
theorem Zqp{b:Nat}{N:ZJ}(hN:GoodN N)(hR:Rd st la (b+5) N){kx lv:Nat}{ros:List Ro}(hg:st.get lv kx=some (.arr 5 ver (ros.map Ro.av)))(hP:PlanOk N ros){ys:List Ed}(hyl:ys.length<65536)(hy:∀y∈ys,y.text.length<=200):
 S Tb Xd [.ptr la (b+5) 0 0 0,.ref lv kx ver 0 ros.length,.lit (ys.map Ed.av)] st=some (.tup [.lit ((ys.map (ZDB N ros)).map Tr.av),.bool true],st):=by
 refine QK Y (fun A hA=>?_)
 have hr:=fun L=>hR.push hA (ro:=false) (L:=L)
 have gr:=fun L=>ZX hA (ro:=false) (L:=L) hg
 have hwi:∀L,wIs 5 ver (St.get ⟨A,false,L⟩ lv kx)=true:=fun L=>by rw[gr];simp[wIs]
 have hpl:=hP.len
 repeat'(first|refine ZE ?_|refine ZD ?_|refine ZG Y ?_|refine ZB Y ?_|refine ZC ?_|refine ZBz Y ?_|refine ZL ?_)
 refine Z2 (α:=Nat × List Blk) (fun q=>[(0,.ptr la (b+5) 0 0 0),(1,.ref lv kx ver 0 ros.length),(2,.lit (ys.map Ed.av)),(8,.ref A.length 0 q.1 0 q.1),(9,.int .i64 q.1)])
  (fun q=>⟨A,false,.arr 7 q.1 (((ys.take q.1).map (ZDB N ros)).map Tr.av)::q.2⟩) (fun q=>q.1<=ys.length) (fun q=>ys.length-q.1) (0,[]) rfl rfl (Nat.zero_le _) ?_
 rintro⟨i,G⟩ hi
 simp only at hi ⊢
 rcases Nat.lt_or_ge i ys.length with hlt|hge
 ·obtain⟨y,hyi⟩:∃y,ys[i]?=some y:=⟨ys[i]'(by omega),by simp[hlt]⟩
  have hy1:=hy y (jM hyi)
  have hx:0<=((i:Nat):Int)/\ys[((i:Nat):Int).toNat]?=some y:=⟨by omega,by rw[show ((i:Nat):Int).toNat=i by omega];exact hyi⟩
  have hes:(((ys.take i).map (ZDB N ros)).map Tr.av).length=i:=by simp;omega
  have hfin:∀c,ZDB N ros y=c->((ys.take (i+1)).map (ZDB N ros)).map Tr.av=((ys.take i).map (ZDB N ros)).map Tr.av++[c.av]:=fun c hc=>by
   rw[Zb hyi,List.map_append,List.map_append,<- hc];rfl
  generalize hES:((ys.take i).map (ZDB N ros)).map Tr.av=es at *
  have e0:(⟨A,false,.arr 7 i es::G⟩:St)=⟨A,false,(.arr 7 i es::G)++[]⟩:=by rw[lN]
  rw[e0]
  by_cases hros:ros=[]
  ·have hc:=hfin (QX y.text) (by unfold ZDB;rw[show Zdn ros y.n=none by subst hros;rfl])
   have h0:(ros.length:Int)=0:=by rw[hros];rfl
   have hBu:=fun st=>ZVu hN y.text (by omega) st
   generalize QX y.text=c at *
   repeat'(first|refine XH Y ?_|refine JZ Y ?_|refine JD Y Y hx (fun _=>rfl) ?_|refine Yx Y Y Y Y Y ?_|refine ZAe Y Y Y (Zk _) ?_|refine ZIb Y Y Y Y (Z7 _ _ _) (QQ _ _) Y ?_|refine ZCO Y ?_|refine ZE ?_|refine ZD ?_|refine ZG Y ?_|refine ZU Y Y ?_|refine Zs Y Y ?_|refine ZB Y ?_|refine ZC ?_|refine QH Y Y ?_|(refine cm0 Y Y Y ?_ ?_<;>intro _<;>try omega)|(refine cm0 Y Y Y ?_ ?_<;>intro _<;>try omega)|(refine cm0 Y Y Y ?_ ?_<;>intro _<;>try omega)|refine ZW Y ?_|refine ZH Y ?_|refine ZA Y Y (by first|rfl|(simp only[lE,lN,lC,ZY,ZS,ZV];first|done|rfl)) (hBu _) ?_|refine ZI ?_|refine ZL ?_)
   all_goals try first|contradiction|omega
   refine ZCI (es:=es) (ys:=[c].map Tr.av) Y Y Y hes.symm (Yl _) (ZIX _ _ _) (by rw[hes,List.length_map,List.length_singleton];omega) (by decide) ?_
   repeat'(first|refine ZD ?_|refine ZG Y ?_|refine ZB Y ?_|refine ZC ?_|refine Zm Y Y (by omega) ?_|refine Zv ?_|refine Zf ?_|refine Zc Y ?_|refine QD ?_)
   refine⟨(i+1,G++[.arr 7 0 [c.av]]),⟨rfl,?_⟩,by simp only;omega,by simp only;omega⟩
   simp only[hc];rfl
  ·obtain⟨r,hr1,hr2,hr3⟩:=Zn7 (x:=y.n) hros
   have hc:=hfin (ZBv N (YF r) (JK y.at_ r.m.b) (JK y.len (r.m.b-JK y.at_ r.m.b)) y.text).own (by unfold ZDB;rw[hr1])
   obtain⟨h1,h2,h3,h4⟩:=hP.rt r hr2;have hl0:0<ros.length:=List.length_pos_iff.2 hros
   have pn:=Qx (x:=y.n) (n:=(ros.length:Int)-1) (by omega)
   have p1:=Qx (x:=y.at_) h3
   have p2:=Qx (x:=y.len) (n:=r.m.b-JK y.at_ r.m.b) (by omega)
   have hN1:=fun st=>ZgC y.n ((ros.length:Int)-1) (by omega) (by omega) st
   have hN2:=fun st=>ZgC y.at_ r.m.b (by omega) (by omega) st
   have hN3:=fun st=>ZgC y.len (r.m.b-JK y.at_ r.m.b) (by omega) (by omega) st
   have hK:=fun L=>ZOU (hr L) h1
   have hRe:=fun L=>ZdY hN (hr L) (s:=y.text) h1.keep (a:=JK y.at_ r.m.b) (n:=JK y.len (r.m.b-JK y.at_ r.m.b)) p1.1 p2.1 (by omega) (by omega) (by omega)
   have gr2:(ros.map Ro.av)[0+(JK y.n ((ros.length:Int)-1)).toNat]?=some r.av:=by
    rw[Nat.zero_add,jG,show ros[(JK y.n ((ros.length:Int)-1)).toNat]?=some r from hr1];rfl
   generalize (ZBv N (YF r) (JK y.at_ r.m.b) (JK y.len (r.m.b-JK y.at_ r.m.b)) y.text).own=c at *
   generalize YF r=kt at *
   repeat'(first|refine XH Y ?_|refine JZ Y ?_|refine JD Y Y hx (fun _=>rfl) ?_|refine ZCi Y Y (by omega) (hwi _) ?_|refine Z9 Y (gr _) gr2 (ZOa _) ?_|refine Yx Y Y Y Y Y ?_|refine ZAe Y Y Y Y ?_|refine ZAe Y Y Y (Zk _) ?_|refine ZIb Y Y Y Y (Z7 _ _ _) (QQ _ _) Y ?_|refine ZIb Y Y Y Y Y Y Y ?_|refine ZCO Y ?_|refine ZE ?_|refine ZD ?_|refine ZG Y ?_|refine ZU Y Y ?_|refine Zs Y Y ?_|refine ZB Y ?_|refine ZC ?_|refine QH Y Y ?_|(refine cm0 Y Y Y ?_ ?_<;>intro _<;>try omega)|(refine cm0 Y Y Y ?_ ?_<;>intro _<;>try omega)|(refine cm0 Y Y Y ?_ ?_<;>intro _<;>try omega)|refine ZW Y ?_|refine ZH Y ?_|refine Jw Y Y (by omega) ?_|refine ZA Y Y (by first|rfl|(simp only[lE,lN,lC,ZY,ZS,ZV];first|done|rfl)) (hN1 _) ?_|refine ZA Y Y (by first|rfl|(simp only[lE,lN,lC,ZY,ZS,ZV];first|done|rfl)) (hN2 _) ?_|refine YL Y Y Y (hN3 _) ?_|refine ZA Y Y (by first|rfl|(simp only[lE,lN,lC,ZY,ZS,ZV];first|done|rfl)) (hK _) ?_|refine ZA Y Y Zkl (hRe _) ?_|refine ZI ?_|refine ZL ?_)
   all_goals try first|contradiction|omega
   refine ZCI (es:=es) (ys:=[c].map Tr.av) Y Y Y hes.symm (Yl _) (ZIX _ _ _) (by rw[hes,List.length_map,List.length_singleton];omega) (by decide) ?_
   repeat'(first|refine ZD ?_|refine ZG Y ?_|refine ZB Y ?_|refine ZC ?_|refine Zm Y Y (by omega) ?_|refine Zz ?_|refine QD ?_)
   refine⟨(i+1,G++[.arr 5 0 [r.av],.arr 7 0 [c.av]]),⟨rfl,?_⟩,by simp only;omega,by simp only;omega⟩
   simp only[hc];rfl
 ·obtain rfl:i=ys.length:=by omega
  rw[List.take_length]
  repeat'(first|refine XH Y ?_|refine ZE ?_|refine ZD ?_|refine ZG Y ?_|refine ZB Y ?_|refine ZC ?_|(refine cm0 Y Y Y ?_ ?_<;>intro _<;>try omega)|refine ZH Y ?_|refine ZQ ?_|refine Zv ?_|refine ZO ?_|refine Zf ?_|refine Zc Y ?_|refine Zu ?_)
  all_goals try omega
  exact ZHB hA (.inr Y) Y Y (by simp) (fun v hv=>by obtain⟨x,_,rfl⟩:=List.mem_map.1 hv;exact ZjM 2 x) Y Y
def ZEU:Nat->List B8->Nat
 | n,[]=>n
 | n,t::ts=>if n<=900 then ZEU (n+min t.length 1000) ts else n
def ZSN(l:List B8):Prop:=4<l.length\/900<ZEU 0 l
instance (l:List B8):Decidable (ZSN l):=by unfold ZSN;infer_instance
theorem ZOb:∀(l:List B8) (n:Nat),n<=ZEU n l
 | [],n=>by simp[ZEU]
 | t::ts,n=>by
  rw[ZEU]
  by_cases h:n<=900
  ·rw[if_pos h];have:=ZOb ts (n+min t.length 1000);omega
  ·rw[if_neg h];exact Nat.le_refl _
theorem Zdo:∀(l:List B8) (n:Nat),ZEU n l<=900->n+(l.map List.length).sum<=900
 | [],n,h=>by simpa [ZEU] using h
 | t::ts,n,h=>by
  rw[ZEU]at h
  by_cases hn:n<=900
  ·rw[if_pos hn]at h
   have h1:=ZOb ts (n+min t.length 1000);have h2:=Zdo ts _ h;rw[jC,List.sum_cons];omega
  ·rw[if_neg hn]at h;omega
theorem Zdp{α:Type}{l:List α}{a:α}(h:l[i]?=some a):l.drop i=a::l.drop (i+1):=by
 obtain⟨h1,h2⟩:=List.getElem?_eq_some_iff.1 h;subst h2;exact List.drop_eq_getElem_cons h1
theorem ZsC(l:List B8)(hb:l.length<9223372036854775808)(hs:∀s∈l,s.length<9223372036854775808)(st:St):S Tb X4 [.lit (l.map .str)] st=some (.bool (decide (ZSN l)),st):=by
 refine QK Y (fun A hA=>?_)
 repeat'(first|refine ZE ?_|refine ZD ?_|refine ZG Y ?_|refine ZB Y ?_|refine ZC ?_|refine ZL ?_)
 refine Z2 (α:=Nat × Nat) (fun p=>[(0,.lit (l.map .str)),(3,.int .i64 p.2),(4,.int .i64 p.1)]) (fun p=>⟨A,false,[]⟩) (fun p=>p.1<=l.length/\p.2<=1900/\ZEU p.2 (l.drop p.1)=ZEU 0 l) (fun p=>l.length-p.1) (0,0) Y Y ⟨Nat.zero_le _,Nat.zero_le _,rfl⟩ ?_
 rintro⟨i,n⟩ ⟨h1,h2,h3⟩
 simp only at h1 h2 h3 ⊢
 repeat'(first|refine ZE ?_|refine ZD ?_|refine ZG Y ?_|refine QE Y ?_|refine JW Y Y ?_|refine Zo Y Y Y Y ?_|refine ZB Y ?_|refine ZC ?_|refine JR Y ?_|refine QJ Y ?_|refine QH Y Y ?_|refine J9 Y Y (by omega) (fun _=>rfl) (fun _ _=>?_)|(refine cm0 Y Y Y ?_ ?_<;>intro _<;>try omega)|refine ZW Y ?_|refine ZH Y ?_|refine ZeP Y Y ?_|refine ZI ?_|refine ZQ ?_|refine Zv ?_|refine ZL ?_|refine ZO ?_|refine Zf ?_|refine Zc Y ?_|refine Zu ?_)
 ·rename_i hlt hn x hx
  have hx':l[i]?=some x:=by rw[show i=((i:Nat):Int).toNat by omega];exact hx
  have hxl:=hs x (jM hx')
  have e1:(if false=true then max (x.length:Int) 1000 else min (x.length:Int) 1000)=((min x.length 1000:Nat):Int):=by
   simp only[jB,if_false];omega
  rw[e1]
  refine Zm Y Y (by omega) ?_
  rw[show (n:Int)+((min x.length 1000:Nat):Int)=((n+min x.length 1000:Nat):Int) by omega]
  repeat'(first|refine ZD ?_|refine ZG Y ?_|refine ZB Y ?_|refine ZC ?_|refine Zm Y Y (by omega) ?_|refine Zz ?_|refine QD ?_)
  refine⟨(i+1,n+min x.length 1000),⟨rfl,rfl⟩,⟨by simp only;omega,by simp only;omega,?_⟩,by simp only;omega⟩
  rw[<- h3,Zdp hx',ZEU,if_pos (by omega)]
 ·refine ZA1 hA (by simp) Y Y ?_
  exact (decide_eq_true (.inl (by omega))).symm
 ·refine ZA1 hA (by simp) Y Y ?_
  refine (decide_eq_true (.inr ?_)).symm
  have:=ZOb (l.drop i) n
  omega
 ·refine ZA1 hA (by simp) Y Y ?_
  exact (decide_eq_true (.inl (by omega))).symm
 ·refine ZA1 hA (by simp) Y Y ?_
  refine (decide_eq_true (.inr ?_)).symm
  have:=ZOb (l.drop i) n
  omega
 ·refine ZA1 hA (by simp) Y Y ?_
  refine (decide_eq_false ?_).symm
  have:l.drop i=[]:=List.drop_eq_nil_of_le (by omega)
  rw[this,ZEU]at h3
  rintro (h|h)<;>omega
def ZaF(l:List Ed):Prop:=(∃s∈l.take 100,200<s.text.length)\/60<l.length
open Classical in
noncomputable instance (l:List Ed):Decidable (ZaF l):=Classical.propDecidable _
theorem Zn9(l:List Ed)(hb:l.length<9223372036854775808)(hs:∀s∈l,s.text.length<9223372036854775808)(st:St):S Tb X5 [.lit (l.map Ed.av)] st=some (.bool (decide (ZaF l)),st):=by
 refine QK Y (fun A hA=>?_)
 repeat'(first|refine ZE ?_|refine ZD ?_|refine ZG Y ?_|refine ZB Y ?_|refine ZC ?_|refine ZL ?_)
 refine Z2 (α:=Nat) (fun i=>[(0,.lit (l.map Ed.av)),(3,.int .i64 i)]) (fun p=>⟨A,false,[]⟩) (fun i=>i<=l.length/\i<=100/\∀j s,j<i->l[j]?=some s->s.text.length<=200) (fun i=>l.length-i) 0 Y Y ⟨Nat.zero_le _,Nat.zero_le _,fun j s h=>by omega⟩ ?_
 rintro i ⟨h1,h2,h3⟩
 have key:∀ {j:Nat} {s:Ed},(l.length:Int)<=i\/100<=(i:Int)->s∈l.take 100->s.text.length<=200:=by
  intro j s hi hm;obtain⟨j,hj⟩:=List.mem_iff_getElem?.1 hm;have hj1:=(List.getElem?_eq_some_iff.1 hj).1;rw[List.length_take]at hj1
  rw[List.getElem?_take,if_pos (by omega)]at hj
  exact h3 j s (by omega) hj
 repeat'(first|refine ZE ?_|refine ZD ?_|refine ZG Y ?_|refine ZU Y Y ?_|refine QE Y ?_|refine JW Y Y ?_|refine Zo Y Y Y Y ?_|refine ZB Y ?_|refine ZC ?_|refine JR Y ?_|refine QJ Y ?_|refine QH Y Y ?_|refine J9 Y Y (by omega) (fun _=>rfl) (fun _ _=>?_)|(refine cm0 Y Y Y ?_ ?_<;>intro _<;>try omega)|refine ZW Y ?_|refine ZH Y ?_|refine Zm Y Y (by omega) ?_|refine ZI ?_|refine ZQ ?_|refine Zv ?_|refine ZL ?_|refine ZO ?_|refine Za ?_|refine Zf ?_|refine Zz ?_|refine QN ?_|refine Zc Y ?_|refine QD ?_|refine ZKJ ?_|refine Zu ?_)
 ·rename_i hlt hn s hs' hbig
  have hs1:l[i]?=some s:=by rw[show i=((i:Nat):Int).toNat by omega];exact hs'
  refine ZA1 hA (by simp) Y Y ?_
  refine (decide_eq_true (.inl ⟨s,?_,by omega⟩)).symm
  refine List.mem_iff_getElem?.2 ⟨i,?_⟩
  rw[List.getElem?_take,if_pos (by omega)];exact hs1
 ·rename_i hlt hn s hs' hbig
  have hs1:l[i]?=some s:=by rw[show i=((i:Nat):Int).toNat by omega];exact hs'
  refine⟨i+1,⟨rfl,rfl⟩,⟨by omega,by omega,fun j s2 hj h=>?_⟩,by omega⟩
  rcases Nat.lt_or_ge j i with q|q
  ·exact h3 j s2 q h
  ·obtain rfl:j=i:=by omega
   rw[hs1]at h
   have:=Option.some.inj h
   subst this;omega
 ·refine ZA1 hA (by simp) Y Y ?_
  exact (decide_eq_true (.inr (by omega))).symm
 ·refine ZA1 hA (by simp) Y Y ?_
  exact (decide_eq_true (.inr (by omega))).symm
 ·refine ZA1 hA (by simp) Y Y ?_
  refine (decide_eq_false ?_).symm
  rintro (⟨s,h,hh⟩|h)
  ·have:=key (j:=0) (s:=s) (.inl (by omega)) h
   omega
  ·omega
theorem ZoA{l:List Ed}(h:¬ ZaF l):l.length<=60/\∀s∈l,s.text.length<=200:=by
 have h1:l.length<=60:=by
  rcases Nat.lt_or_ge 60 l.length with q|q
  ·exact absurd (.inr q) h
  ·exact q
 refine⟨h1,fun s hs=>?_⟩
 rcases Nat.lt_or_ge 200 s.text.length with q|q
 ·refine absurd (.inl ⟨s,?_,q⟩) h
  rw[List.take_of_length_le (by omega)];exact hs
 ·exact q
theorem ZoB{l:List B8}(h:¬ ZSN l):l.length<=4/\(l.map List.length).sum<=900:=by
 have h1:¬ 4<l.length:=fun q=>h (.inl q)
 have h2:¬ 900<ZEU 0 l:=fun q=>h (.inr q)
 have:=Zdo l 0 (by omega)
 exact⟨by omega,by omega⟩
end Go.Q15
namespace Go.QAbs
variable {w:AV}{e:Env}{g:FuncId}{a z:Int}{Q:J0}{A:List (Bool × List Blk)}{caps:LV}{k:List Fr}{l:List Nat}{s s0:B8}{d i ix la lm mx n o ver:Nat}{O:Orc}{st:St}
end Go.QAbs
namespace Go.Q15
open Go Go.QAbs
variable {w:AV}{e:Env}{g:FuncId}{a z:Int}{Q:J0}{A:List (Bool × List Blk)}{caps:LV}{k:List Fr}{l:List Nat}{s s0:B8}{d i ix la lm mx n o ver:Nat}{O:Orc}{ro x:Ro}{st:St}{t:Tr}
def ZiB(r:AR)(o:Nat):Prop:=ZCF o/\r.states[o % 65536]?=some 1/\r.gens[o % 65536]?=some ((o / 65536:Nat):Int)
instance (r:AR) (o:Nat):Decidable (ZiB r o):=by unfold ZiB;exact inferInstance
theorem AROk.live{r:AR}(h:AROk r){x:Nd}(hx:lk r.nodes o=some x):ZiB r o/\o<18446744073709551616:=by
 obtain⟨s,g,k1,k2,k3,k4⟩:=h.key o x hx;obtain⟨h1,h2⟩:=h.hnd hx
 have:=h.n16
 have hm:o % 65536=s:=by omega
 have hd:o / 65536=g:=by omega
 unfold ZiB;rw[hm,hd];refine⟨⟨h1,k3,k4⟩,?_⟩;unfold ZCF at h1;omega
theorem ZoC{x h:Nat}(hx:l[i]?=some x)(hn:h∉l.take i)(e:x≠h):h∉l.take (i+1):=by
 rw[Zb hx,List.mem_append,List.mem_singleton]
 exact fun q=>q.elim hn fun q=>e q.symm
theorem Zkm(l:List Nat)(hb:l.length<4294967296)(h:Nat)(st:St):
 S Tb Yu [.lit (l.map QB),.int .u64 h] st=some (.bool (decide (h∈l)),st):=by
 refine QK Y (fun A hA=>?_)
 repeat'(first|refine ZE ?_|refine ZD ?_|refine ZG Y ?_|refine ZB Y ?_|refine ZC ?_|refine ZL ?_)
 refine Z2 (α:=Nat) (fun i=>[(0,.lit (l.map QB)),(1,.int .u64 h),(5,.int .i64 i)]) (fun i=>⟨A,false,[]⟩) (fun i=>i<=l.length/\h∉l.take i) (fun i=>l.length-i) 0 Y Y ⟨by omega,by simp⟩ ?_
 rintro i ⟨hi,hni⟩
 rcases Nat.lt_or_ge i l.length with hlt|hge
 ·obtain⟨x,hx⟩:∃x,l[i]?=some x:=⟨l[i]'hlt,jE _⟩
  have q:0<=((i:Nat):Int)/\l[((i:Nat):Int).toNat]?=some x:=⟨by omega,by rw[show ((i:Nat):Int).toNat=i by omega];exact hx⟩
  repeat'(first|refine JD Y Y q (fun _=>rfl) ?_|refine ZE ?_|refine ZD ?_|refine ZG Y ?_|refine ZB Y ?_|refine ZC ?_|refine QJ Y ?_|refine QH Y Y ?_|(refine cm0 Y Y Y ?_ ?_<;>intro _<;>try omega)|refine ZW Y ?_|refine ZH Y ?_|refine Zm Y Y (by omega) ?_|refine ZI ?_|refine ZQ ?_|refine ZL ?_|refine ZO ?_|refine Za ?_|refine Zz ?_|refine QN ?_|refine QD ?_|refine ZKJ ?_)
  all_goals try omega
  ·rename_i e
   obtain rfl:x=h:=by omega
   rw[decide_eq_true (jM hx)]
   refine Zi hA (by simp) Y Y Y Y ?_
   rfl
  ·rename_i e
   exact⟨i+1,⟨rfl,rfl⟩,⟨by omega,ZoC hx hni (by omega)⟩,by omega⟩
 ·obtain rfl:i=l.length:=by omega
  rw[List.take_length]at hni;rw[decide_eq_false hni]
  repeat'(first|refine ZE ?_|refine ZD ?_|refine ZG Y ?_|refine ZB Y ?_|refine ZC ?_|refine QJ Y ?_|(refine cm0 Y Y Y ?_ ?_<;>intro _<;>try omega)|refine ZH Y ?_|refine ZQ ?_|refine Zv ?_|refine ZO ?_|refine Zf ?_|refine Zc Y ?_|refine Zu ?_)
  all_goals try omega
  refine Zi hA (by simp) Y Y Y Y ?_
  rfl
theorem ZiC:∀ {l:List Nat},l.Nodup->Z1 l=l:=by
 intro l
 have key:∀(l w:List Nat),(w++l).Nodup->l.foldl QY w=w++l:=by
  intro l
  induction l with
  | nil=>intro w _;simp
  | cons a l ih =>
   intro w h
   have ha:a∉w:=fun q=>by
    rw[List.nodup_append]at h
    exact h.2.2 a q a (by simp) Y
   rw[List.foldl_cons];unfold QY;rw[if_neg ha]
   have e:w++a::l=w++[a]++l:=by simp
   rw[e]at h ⊢;exact ih _ h
 intro h
 have:=key l [] (by simpa using h)
 rwa [lE]at this
def ltL(n:Nat)(r:AR)(v:Nat)(ros:List Ro)(G0:List Blk)(w:Nat)(ss:List B8)(G1:List Blk):List Blk :=
 r.b0::r.b1::r.b2::r.b3 n 0::r.b4::r.b5 n 0::.arr 5 v (ros.map Ro.av)::(G0++.arr 1 w (ss.map .str)::G1)
section
variable {A:List (Bool × List Blk)}{r:AR}{v:Nat}{ros:List Ro}{G0:List Blk}{w:Nat}{ss:List B8}{G1:List Blk}
theorem ZaG:Has ⟨A,false,ltL A.length r v ros G0 w ss G1⟩ A.length 0 r:=XU A [] (.arr 5 v (ros.map Ro.av)::(G0++.arr 1 w (ss.map .str)::G1)) r
theorem ZrQ:Rd ⟨A,false,ltL A.length r v ros G0 w ss G1⟩ A.length 5 r.nodes:=(ZaG).r.rd
theorem ZsD(r':AR):Qe ⟨A,false,ltL A.length r v ros G0 w ss G1⟩ A.length 0 r'=⟨A,false,ltL A.length r' v ros G0 w ss G1⟩:=ZOZ A [] (.arr 5 v (ros.map Ro.av)::(G0++.arr 1 w (ss.map .str)::G1)) r r'
theorem ZsE:(ltL n r v ros G0 w ss G1)[6]?=some (.arr 5 v (ros.map Ro.av)):=rfl
theorem lt_7:(ltL n r v ros G0 w ss G1)[7+G0.length]?=some (.arr 1 w (ss.map .str)):=by
 rw[show 7+G0.length=G0.length+7 by omega]
 show (G0++.arr 1 w (ss.map .str)::G1)[G0.length]?=_
 exact ZRf _ _ _
theorem ZoD(b:Blk):ltL n r v ros G0 w ss G1++[b]=ltL n r v ros G0 w ss (G1++[b]):=by simp[ltL]
theorem Zqq(v':Nat)(x:Ro):(ltL n r v ros G0 w ss G1).set 6 (.arr 5 v' (ros.map Ro.av++[x.av]))=ltL n r v' (ros++[x]) G0 w ss G1:=by
 unfold ltL;rw[List.map_append];rfl
theorem Zqr(w':Nat)(s:B8):(ltL n r v ros G0 w ss G1).set (7+G0.length) (.arr 1 w' (ss.map .str++[.str s]))=ltL n r v ros G0 w' (ss++[s]) G1:=by
 rw[show 7+G0.length=G0.length+7 by omega]
 unfold ltL;simp only[List.set_cons_succ,List.map_append]
 rw[show (G0++Blk.arr 1 w (ss.map .str)::G1).set G0.length (Blk.arr 1 w' (ss.map .str++[AV.str s]))=G0++Blk.arr 1 w' (ss.map .str++[AV.str s])::G1 by simp]
 rfl
end
theorem Zjg{ys:List Ed}{y:Ed}(h:ys[i]?=some y):((ys.map Ed.av).drop i).take (i+1-i)=[y].map Ed.av:=by
 rw[<- List.map_drop,<- List.map_take,show i+1-i=1 by omega]
 obtain⟨h1,h2⟩:=List.getElem?_eq_some_iff.1 h;rw[List.drop_eq_getElem_cons h1,h2];rfl
theorem ZoE(ys:List Ed):Q9 5 (ys.map Ed.av)=true:=by
 induction ys with
 | nil=>rfl
 | cons b s ih=>rw[jC,Q9,List.all_cons];exact Bool.and_eq_true_iff.2 ⟨rfl,ih⟩
theorem Zkn{keep:List Nat}{is:List QAbs.PI}{ys:List Ed}{y:Ed}{x a b:Opd}(hx:Zd e x=some (.lit (ys.map Ed.av)))(ha:Zd e a=some (.int .i64 i))(hb:Zd e b=some (.int .i64 z))(hz:z=i+1)(hy:ys[i]?=some y)
 (h:Is O is keep k Q ((d,.lit ([y].map Ed.av))::e) st):Is O (⟨some d,none,false,.slc 5 x (some a) (some b)⟩::is) keep k Q e st:=by
 have hlt:=(List.getElem?_eq_some_iff.1 hy).1;refine ZeR (r:=i+1) (l:=i) hx ?_ ?_ (ZoE _) ?_
 ·simp only[ZDE,ZF hb,Jc,List.length_map]
  rw[if_pos (by omega)];congr 1;omega
 ·simp only[ZDE,ZF ha,Jc]
  rw[if_pos (by omega)];rfl
 ·rw[Zjg hy];exact h
theorem ZsF{texts:List B8}{ys:List Ed}(hl:¬ ZSN texts)(hm:¬ ZaF ys):(texts.flatten.length<=900/\texts.length<=4)/\ys.length<=60/\∀y∈ys,y.text.length<=200:=by
 refine⟨?_,ZoA hm⟩
 have:=ZoB hl
 rw[List.length_flatten];omega
theorem Zjh{texts:List B8}(h9:texts.flatten.length<=900):∀s∈texts,s.length<=900:=by
 intro s hs;obtain⟨i,hi,rfl⟩:=List.getElem_of_mem hs;have h1:=Zh8 (l:=texts) (jE hi);have h2:=ZV0 texts (i+1);rw[h1,lL]at h2;omega
theorem ZiD:∀(n:Nat) (l:List Nat),l.Nodup->(∀x∈l,x<n)->l.length<=n:=by
 intro n
 induction n with
 | zero=>intro l _ h;cases l with
  | nil=>exact Nat.le_refl _
  | cons a l=>have:=h a (by simp);omega
 | succ n ih =>
  intro l hd h
  by_cases hm:n∈l
  ·have := ih (l.erase n) (hd.erase n) (fun x hx => by
    have h1:=h x (List.mem_of_mem_erase hx)
    have h2:x≠n:=fun e=>by subst e;exact hd.not_mem_erase hx
    omega)
   rw[List.length_erase_of_mem hm]at this;omega
  ·have := ih l hd (fun x hx => by
    have h1:=h x hx
    have h2:x≠n:=fun e=>hm (e▸hx)
    omega)
   omega
theorem AROk.few{r:AR}(h:AROk r)(hd:l.Nodup)(hl:∀o∈l,∃x,lk r.nodes o=some x):l.length<=16384:=by
 have h16:=h.n16
 have key:∀o∈l,ZiB r o:=fun o ho=>by obtain⟨x,hx⟩:=hl o ho;exact (h.live hx).1
 have h1:(l.map (· % 65536)).Nodup:=by
  unfold List.Nodup at hd ⊢;rw[List.pairwise_map]
  refine hd.imp_of_mem (fun {p o} hp ho hne e=>hne ?_)
  have a:=(key p hp).2.2;have c:=(key o ho).2.2;rw[e,c]at a
  have:=Option.some.inj a
  omega
 have:=ZiD r.states.length _ h1 (fun x hx=>by
  obtain⟨o,ho,rfl⟩:=List.mem_map.1 hx
  exact (List.getElem?_eq_some_iff.1 (key o ho).2.1).1)
 rw[List.length_map]at this;omega
theorem ZoF(texts:List B8)(hl:texts.flatten.length<=900):∀i,i<=texts.length->(XZ (texts.take i)).1.nodes.length+(XZ (texts.take i)).1.n=1500:=by
 intro i
 induction i with
 | zero=>intro _;simp[XZ,JH]
 | succ i ih =>
  intro hi
  obtain⟨s,hs⟩:∃s,texts[i]?=some s:=⟨texts[i]'(by omega),by simp[show i<texts.length by omega]⟩
  have hl2:=ZV0 texts (i+1)
  have h:=ZaE texts hl i (by omega)
  obtain⟨hn,_⟩:=ZaD (s:=s) h (by rw[<- Zb hs];omega)
  have hfl:=Zh8 hs
  have hs2:s.length<=900:=by rw[hfl,lL]at hl2;omega
  obtain⟨b1,b2,b3⟩:=J5 h.good (show s.length<=65536 by omega)
  obtain⟨w1,_⟩:=ZaB (XU [] [] [] _) h.ok h.good b1 (by rw[b3];omega) hn
  have h1:=w1.n;have h2:=w1.nl
  have h3:=ih (by omega)
  rw[Zb hs,ZLb]
  show (wrV (QX s) _).1.nodes.length+(wrV (QX s) _).1.n=1500
  omega
theorem ZoG{N:ZJ}(hN:GoodN N){ros:List Ro}(h:PlanOk N ros){y:Ed}(hy:y.text.length<=200){B:Int}(hB:0<=B)(hr:∀r∈ros,r.m.b<=B):(ZDB N ros y).bytes<=B+200:=by
 unfold ZDB
 match hq:Zdn ros y.n with
 | none =>
  obtain⟨b1,b2,b3⟩:=J5 hN (s:=y.text) (by omega)
  show (QX y.text).bytes<=_;omega
 | some r =>
  have hm:=jM (show ros[_]?=some r from hq)
  obtain⟨h1,h2,h3,h4⟩:=h.rt r hm;have h5:=hr r hm;have p1:=Qx (x:=y.at_) h3
  have p2:=Qx (x:=y.len) (n:=r.m.b-JK y.at_ r.m.b) (by omega)
  have:=ZOI hN (s:=y.text) h1.keep (a:=JK y.at_ r.m.b) (n:=JK y.len (r.m.b-JK y.at_ r.m.b)) p1.1 p2.1 (by omega) (by omega) (by omega)
  show (Tr.own _).bytes<=_
  rw[J6,this.bytes];omega
structure MkInv(r:AR)(ros:List Ro)(ss:List B8)(n:Nat)(B:Nat):Prop where
 ok:AROk r
 good:GoodN r.nodes
 rts:Rts r.nodes ros ss
 len:ros.length=n
 n20:n<=20
 small:∀s∈ss,s.length<=B
 nl:r.nodes.length+r.n=1500
theorem MkInv.plan{r:AR}{ros:List Ro}{ss:List B8}{B:Nat}(h:MkInv r ros ss n B)(hB:B<=60000):PlanOk r.nodes ros:=h.rts.plan h.good (by have:=h.len;have:=h.n20;omega) (fun s hs=>by have:=h.small s hs;omega)
theorem MkInv.mb{r:AR}{ros:List Ro}{ss:List B8}{B:Nat}(h:MkInv r ros ss n B):∀ro∈ros,ro.m.b<=(B:Int):=by
 intro ro hr;obtain⟨i,hi,rfl⟩:=List.getElem_of_mem hr
 have hi2:i<ss.length:=by rw[<- h.rts.1];exact hi
 have g:=h.rts.2 i _ _ (jE hi) (jE hi2)
 have:=(g.b h.good).2
 have:=h.small _ (List.getElem_mem hi2)
 omega
theorem ZsG(texts:List B8)(ys:List Ed)(h9:texts.flatten.length<=900/\texts.length<=4)(hy12:ys.length<=12)(hys:∀y∈ys,y.text.length<=200)(A:List (Bool × List Blk)):
 Sp Tb Yb [.lit (texts.map .str),.lit (ys.map Ed.av)] ⟨A,false,[]⟩ (fun v st'=>∃r c ros ss G0 G1 n,v=.tup [.ptr A.length 5 0 0 0,.ref A.length 6 n 0 n,.ref A.length (7+G0.length) c 0 n,.bool true]/\st'=⟨A,false,ltL A.length r n ros G0 c ss G1⟩/\MkInv r ros ss n 3300):=by
 refine ZkI (rfl:Tb Yb=some (.pf X7)) ?_;have hLd:=ZsB texts h9.1 h9.2 A [];have hLok:=ZaE texts h9.1 texts.length (Nat.le_refl _);have hnl0:=ZoF texts h9.1 texts.length (Nat.le_refl _);rw[List.take_length]at hLok hnl0;have hrl:=hLok.rts.1;obtain⟨r0,ros0,hV⟩:∃r0 ros0,XZ texts=(r0,ros0):=⟨_,_,rfl⟩;rw[hV]at hLd hLok hrl hnl0
 simp only at hLd hLok hrl hnl0
 have hG:(ZDs ros0).length=texts.length:=by unfold ZDs;rw[List.length_map,hrl]
 generalize ZDs ros0=G0 at *
 change S Tb Yd [.lit (texts.map .str)] ⟨A,false,[]⟩=some (.tup [.ptr A.length 5 0 0 0,.ref A.length 6 texts.length 0 texts.length,.bool true],⟨A,false,r0.b0::r0.b1::r0.b2::r0.b3 A.length 0::r0.b4::r0.b5 A.length 0::.arr 5 texts.length (ros0.map Ro.av)::G0⟩) at hLd
 repeat'(first|refine ZE ?_|refine ZD ?_|refine ZG Y ?_|refine Zs Y Y ?_|refine ZB Y ?_|refine ZC ?_|refine ZH Y ?_|refine JC Y Y ?_|refine Qc Y Y Y Y ?_|refine ZA Y Y Y (hLd) ?_|refine ZI ?_)
 all_goals try contradiction
 refine ZFh (vx:=.lit (texts.map .str)) (ys:=texts.map .str) (bytes:=16) Y Y Y (by rw[List.length_map];omega) (by decide) (Zlv _) ?_
 repeat'(first|refine ZE ?_|refine ZD ?_|refine ZG Y ?_|refine ZB Y ?_|refine ZC ?_|refine ZL ?_)
 have hl7:(r0.b0::r0.b1::r0.b2::r0.b3 A.length 0::r0.b4::r0.b5 A.length 0::Blk.arr 5 texts.length (ros0.map Ro.av)::G0).length=7+G0.length:=by simp;omega
 rw[hl7,List.length_map]
 refine Z2 (α:=Nat × Nat × AR × List Ro × List B8 × List Blk) (fun q=>[(1,.lit (ys.map Ed.av)),(8,.ptr A.length 5 0 0 0),(9,.ref A.length 6 (texts.length+q.2.1) 0 (texts.length+q.2.1)),(11,.ref A.length (7+G0.length) q.2.1 0 (texts.length+q.2.1)),(12,.int .i64 q.1)])
  (fun q=>⟨A,false,ltL A.length q.2.2.1 (texts.length+q.2.1) q.2.2.2.1 G0 q.2.1 q.2.2.2.2.1 q.2.2.2.2.2⟩) (fun q=>q.1<=ys.length/\q.2.1<=q.1/\MkInv q.2.2.1 q.2.2.2.1 q.2.2.2.2.1 (texts.length+q.2.1) (900+200*q.1)) (fun q=>ys.length-q.1) (0,0,r0,ros0,texts,[]) rfl rfl ⟨Nat.zero_le _,Nat.zero_le _,hLok.ok,hLok.good,hLok.rts,hrl,by simp only;omega,Zjh h9.1,hnl0⟩ ?_
 rintro⟨i,c,r,ros,ss,G1⟩ ⟨hi,hci,hI⟩
 simp only at hi hci hI ⊢
 have hsl:=hI.rts.1;have hrs:=hI.len
 rcases Nat.lt_or_ge i ys.length with hlt|hge
 ·obtain⟨y,hyi⟩:∃y,ys[i]?=some y:=⟨ys[i]'(by omega),by simp[hlt]⟩
  have hy2:=hys y (jM hyi)
  have hP:PlanOk r.nodes ros:=hI.plan (by omega)
  obtain⟨hv,hvb⟩:=Zn8 hI.good hP hy2
  have hvs:=ZoG hI.good hP hy2 (B:=((900+200*i:Nat):Int)) (by omega) hI.mb
  have hPl:=fun L (hR:Rd ⟨A,false,L⟩ A.length 5 r.nodes) (hg:St.get ⟨A,false,L⟩ A.length 6=some (.arr 5 (texts.length+c) (ros.map Ro.av)))=>Zqp (b:=0) hI.good hR hg hP (ys:=[y]) (by simp) (fun z hz=>by rw[List.mem_singleton]at hz;rw[hz];exact hy2)
  have hPl:=hPl _ ZrQ (Zf7 (ZsE (r:=r) (v:=texts.length+c) (G0:=G0) (w:=c) (ss:=ss) (G1:=G1)) rfl)
  have hTx:=Zru hI.good (ZrQ (A:=A) (r:=r) (v:=texts.length+c) (ros:=ros) (G0:=G0) (w:=c) (ss:=ss) (G1:=G1)) hv (by omega)
  have hln:=hv.len hI.good;simp only[jC,List.map_nil]at hPl;rw[hrs]at hPl
  generalize hT:ZDB r.nodes ros y=t at *
  rcases Nat.lt_or_ge r.n (nw t) with hfull|hroom
  ·have hWr:=ZZ9 (ZaG (A:=A) (r:=r) (v:=texts.length+c) (ros:=ros) (G0:=G0) (w:=c) (ss:=ss) (G1:=G1)) hI.ok hI.good hv (by omega) hfull
   have eb:=ZoD (n:=A.length) (r:=r) (v:=texts.length+c) (ros:=ros) (G0:=G0) (w:=c) (ss:=ss) (G1:=G1) (.arr 5 0 [Ro.zero.av])
   generalize ltL A.length r (texts.length+c) ros G0 c ss G1=L1 at *
   repeat'(first|refine XH Y ?_|refine Zkn Y Y Y Y hyi ?_|refine JD (f:=Tr.av) (l:=[t]) Y Y ⟨by decide,rfl⟩ Z0 ?_|refine ZE ?_|refine ZD ?_|refine ZG Y ?_|refine Zs Y Y ?_|refine ZB Y ?_|refine ZC ?_|(refine cm0 Y Y Y ?_ ?_<;>intro _<;>try omega)|(refine cm0 Y Y Y ?_ ?_<;>intro _<;>try omega)|(refine cm0 Y Y Y ?_ ?_<;>intro _<;>try omega)|refine ZW Y ?_|refine ZH Y ?_|refine JC Y Y ?_|refine Zm Y Y (by omega) ?_|refine Zx Y Y Y ?_|refine YA Y Y Y Y Y Y ?_|refine QH Y (Zk _) ?_|refine ZA Y Y (by first|rfl|(simp only[lE,lN,lC,ZY,ZS,ZV];first|done|rfl)) (hPl) ?_|refine ZA Y Y (by first|rfl|(simp only[lE,lN,lC,ZY,ZS,ZV];first|done|rfl)) (hTx) ?_|refine ZA Y Y (by first|rfl|(simp only[lE,lN,lC,ZY,ZS,ZV];first|done|rfl)) (hWr) ?_|refine ZI ?_|refine Zv ?_|refine ZL ?_|refine Zf ?_|refine Zc Y ?_|refine QD ?_)
   all_goals try first|contradiction|omega
   refine⟨(i+1,c,r,ros,ss,G1++[Blk.arr 5 0 [Ro.zero.av]]),⟨rfl,?_⟩,⟨by simp only;omega,by simp only;omega,hI.ok,hI.good,hI.rts,hrs,hI.n20,fun s hs=>by have:=hI.small s hs;simp only;omega,hI.nl⟩,by simp only;omega⟩
   exact congrArg (St.mk A false) eb
  ·have hWr:=ZVw (ZaG (A:=A) (r:=r) (v:=texts.length+c) (ros:=ros) (G0:=G0) (w:=c) (ss:=ss) (G1:=G1)) hI.ok hI.good hv (by omega) hroom
   rw[ZsD]at hWr
   obtain⟨w1,w2⟩:=ZaB (ZaG (A:=A) (r:=r) (v:=texts.length+c) (ros:=ros) (G0:=G0) (w:=c) (ss:=ss) (G1:=G1)) hI.ok hI.good hv (by omega) hroom
   have f6:(ltL A.length (wrV t r).1 (texts.length+c) ros G0 c ss G1)[6]?=_:=ZsE;have f7:(ltL A.length (wrV t r).1 (texts.length+c) ros G0 c ss G1)[7+G0.length]?=_:=lt_7;have n1:=w1.n;have n2:=w1.nl;have n3:=hI.nl;have n4:=hI.n20
   generalize hL2:ltL A.length (wrV t r).1 (texts.length+c) ros G0 c ss G1=L2 at *
   generalize ltL A.length r (texts.length+c) ros G0 c ss G1=L1 at *
   generalize (wrV t r).1=r2 at *
   generalize (wrV t r).2.1=ro at *
   generalize (wrV t r).2.2=hh at *
   generalize hTT:t.txt r.nodes=T at *
   have hl6:=(List.getElem?_eq_some_iff.1 f6).1;have hl7':=(List.getElem?_eq_some_iff.1 f7).1
   repeat'(first|refine XH Y ?_|refine Zkn Y Y Y Y hyi ?_|refine JD (f:=Tr.av) (l:=[t]) Y Y ⟨by decide,rfl⟩ Z0 ?_|refine ZE ?_|refine ZD ?_|refine ZG Y ?_|refine Zs Y Y ?_|refine ZB Y ?_|refine ZC ?_|refine Qr Y Y Y ?_|(refine cm0 Y Y Y ?_ ?_<;>intro _<;>try omega)|(refine cm0 Y Y Y ?_ ?_<;>intro _<;>try omega)|(refine cm0 Y Y Y ?_ ?_<;>intro _<;>try omega)|refine ZW Y ?_|refine ZH Y ?_|refine JC Y Y ?_|refine Zm Y Y (by omega) ?_|refine Zx Y Y Y ?_|refine YA Y Y Y Y Y Y ?_|refine Qc Y Y Y Y ?_|refine QH Y (Zk _) ?_|refine ZA Y Y (by first|rfl|(simp only[lE,lN,lC,ZY,ZS,ZV];first|done|rfl)) (hPl) ?_|refine ZA Y Y (by first|rfl|(simp only[lE,lN,lC,ZY,ZS,ZV];first|done|rfl)) (hTx) ?_|refine ZA Y Y (by first|rfl|(simp only[lE,lN,lC,ZY,ZS,ZV];first|done|rfl)) (hWr) ?_|refine ZI ?_|refine ZL ?_)
   all_goals try first|contradiction|omega
   refine ZCI (es:=ros.map Ro.av) (ys:=[ro.av]) Y Y (ZAf f6) (by rw[List.length_map];omega) rfl rfl (by rw[List.length_map,List.length_singleton];omega) (by decide) ?_
   repeat'(first|refine ZD ?_|refine ZG Y ?_|refine ZB Y ?_|refine ZC ?_|refine Qc Y Y Y Y ?_)
   refine ZCI (es:=ss.map .str) (ys:=[.str T]) Y Y ((jS (by omega)).trans (ZAf f7)) (by rw[List.length_map];omega) rfl rfl (by rw[List.length_map,List.length_singleton];omega) (by decide) ?_
   repeat'(first|refine ZD ?_|refine ZG Y ?_|refine ZB Y ?_|refine ZC ?_|refine Zm Y Y (by omega) ?_|refine Zz ?_|refine QD ?_)
   refine⟨(i+1,c+1,r2,ros++[ro],ss++[T],G1++[.arr 5 0 [ro.av]]),⟨rfl,?_⟩,⟨by simp only;omega,by simp only;omega,w1.ok,w1.good,(hI.rts.ext hI.good w1.ext).snoc w2,by simp only[lL,List.length_singleton];omega,by simp only;omega,fun s hs=>?_,by simp only;omega⟩,by simp only;omega⟩
   ·show (⟨A,false,((L2++[Blk.arr 5 0 [ro.av]]).set 6 (Blk.arr 5 (texts.length+c+1) (ros.map Ro.av++[ro.av]))).set (7+G0.length) (Blk.arr 1 (c+1) (ss.map AV.str++[AV.str T]))⟩:St)=_
    rw[<- hL2,ZoD,Zqq,Zqr];rfl
   ·rcases List.mem_append.1 hs with q|q
    ·have:=hI.small s q;simp only;omega
    ·rw[List.mem_singleton.1 q];simp only;omega
 ·obtain rfl:i=ys.length:=by omega
  repeat'(first|refine XH Y ?_|refine ZE ?_|refine ZD ?_|refine ZG Y ?_|refine ZB Y ?_|refine ZC ?_|(refine cm0 Y Y Y ?_ ?_<;>intro _<;>try omega)|refine ZH Y ?_|refine ZQ ?_|refine Zv ?_|refine ZO ?_|refine Zf ?_|refine Zc Y ?_|refine Zu ?_)
  all_goals try omega
  refine⟨_,_,YO (.inr Y) Y Y Y Y,r,c,ros,ss,G0,G1,texts.length+c,rfl,rfl,hI.ok,hI.good,hI.rts,hrs,hI.n20,fun s hs=>?_,hI.nl⟩
  have:=hI.small s hs
  omega
def bel(N:ZJ):Nat->Nat->List Nat->List Nat
 | 0,h,s=>if h∈s then s else s++[h]
 | n+1,h,s=>if h∈s then s else (Yr N h).ks.foldl (fun s k=>bel N n k.at_ s) (s++[h])
structure Visit(τ:List Nat->List Nat->St)(lm mx:Nat)(g:FuncId)(caps:LV):Prop where
 len:∀u w u' w',(τ u w).ps.length=(τ u' w').ps.length
 wr:∀u w,(τ u w).wr lm
 get:∀u w,(τ u w).get lm mx=some (.map (YH u))
 upd:∀u w v,(τ u w).upd lm mx (.map (YH v))=τ v w
 call:∀u w h more L,w.length<1000000000->∃v,S Tb g ([.int .u64 (h:Nat)]++caps) ⟨(τ u w).ps++more,false,L⟩=some (v,⟨(τ u (w++[h])).ps++more,false,L⟩)
 wk:∀h:Nat,ZV (ZY ([]++[.int .u64 (h:Nat)]++caps))=some ([.int .u64 (h:Nat)]++caps)
 wk2:∀la b h:Nat,ZV (ZY ([]++[.ptr la b 0 0 0,.int .u64 (h:Nat),.map lm mx,.func (.func g) [] caps]++[]))=some [.ptr la b 0 0 0,.int .u64 (h:Nat),.map lm mx,.func (.func g) [] caps]
theorem ZoI{L:List Blk}{keep:List Nat}{is:List QAbs.PI}{s0:St}{more:List (Bool × List Blk)}{x i v:Opd}{lv h:Nat}{es es':List (AV × AV)}(hx:Zd e x=some (.map lv ix))(hi:Zd e i=some (.int .u64 h))(hv:Zd e v=some w)(hw:s0.wr lv)(hg:s0.get lv ix=some (.map es))
 (hs:ZZ QF (lv+1) ⟨s0.ps++more,false,L⟩ w=some (w,⟨s0.ps++more,false,L⟩)) (hp:ZCV (.int .u64 h) w es=some es')
 (hh:Is O is keep k Q e ⟨(s0.upd lv ix (.map es')).ps++more,false,L⟩):Is O (⟨none,none,false,.mupd 0 x i v⟩::is) keep k Q e ⟨s0.ps++more,false,L⟩:=by
 have hl:=St.get_le hg;have g':=ZCS hg more false L;have w':=Zke hl hw more false L;refine Z3 (od:=none) (v:=.undef) (st':=St.upd ⟨s0.ps++more,false,L⟩ lv ix (.map es')) ?_ ?_
 ·simp only[Zg,evalPO,ZF hx,ZF hi,ZF hv,ZG5,YK,if_true,hs,oS,ZJk,g',ZDF,hp,St.put_upd w' g',ZA7]
 ·rw[Zhy hl];exact hh
theorem ZiE{N:ZJ}{P:Nat}(ih:∀(h:Nat) (s:List Nat) (x:Nd),lk N h=some x->x.h=n->3*(bel N n h s).length+1<=3*s.length+P):∀(ks:List Kid) (s:List Nat),(∀k∈ks,∃y,lk N k.at_=some y/\y.h=n)->3*(ks.foldl (fun s k=>bel N n k.at_ s) s).length+ks.length<=3*s.length+ks.length*P:=by
 intro ks
 induction ks with
 | nil=>intro s _;simp
 | cons k l ihl =>
  intro s hk;rw[List.foldl_cons]
  obtain⟨y,y1,y2⟩:=hk k (by simp)
  have a1:=ih k.at_ s y y1 y2
  have a2:=ihl (bel N n k.at_ s) (fun z hz=>hk z (List.mem_cons_of_mem _ hz))
  rw[List.length_cons,Nat.add_mul];omega
theorem Zqs{N:ZJ}(hN:GoodN N):∀(n h:Nat) (s:List Nat) (x:Nd),lk N h=some x->x.h=n->3*(bel N n h s).length+1<=3*s.length+4 ^ (n+1):=by
 intro n
 induction n with
 | zero =>
  intro h s x hx hh;rw[bel]
  split
  ·omega
  ·rw[lL];simp;omega
 | succ n ih =>
  intro h s x hx hh;rw[bel,Qw hx]
  have hp:4 ^ (n+1+1)=4*4 ^ (n+1):=by rw[Nat.pow_succ];omega
  have h1:0<4 ^ (n+1):=Nat.pow_pos (by decide)
  split
  ·omega
  ·have hk4:=(hN h x hx).1.len
   have hkids:=(hN h x hx).2
   have:=ZiE ih x.ks (s++[h]) (fun k hk=>by obtain⟨_,y,y1,y2,_⟩:=hkids k hk;exact⟨y,y1,by omega⟩)
   rw[lL,List.length_singleton]at this
   have h3:(4-x.ks.length)*4 ^ (n+1)+x.ks.length*4 ^ (n+1)=4*4 ^ (n+1):=by rw[<- Nat.add_mul];congr 1;omega
   have h4:(4-x.ks.length)*1<=(4-x.ks.length)*4 ^ (n+1):=Nat.mul_le_mul_left _ h1
   generalize 4 ^ (n+1)=P at *
   generalize (4-x.ks.length)*P=P1 at *
   generalize x.ks.length*P=P2 at *
   omega
theorem ZaH{τ:List Nat->List Nat->St}(hV:Visit τ lm mx g caps){N:ZJ}{b:Nat}(hR:∀u w,Rd (τ u w) la (b+5) N){h:Nat}{x:Nd}(hx:lk N h=some x)(hk4:x.ks.length<=4)(s:List Nat)(hs:h∉s)(f:Kid->List Nat->List Nat){B:Nat}(hB:B<=900000000)
 (hlen:∀i,((x.ks.take i).foldl (fun s k=>f k s) (s++[h])).length<=B)
 (hf:∀k∈x.ks,∀(s:List Nat) (more:List (Bool × List Blk)) (L:List Blk),s.length<=B->S Tb JT [.ptr la (b+5) 0 0 0,.int .u64 k.at_,.map lm mx,.func (.func g) [] caps] ⟨(τ s s).ps++more,false,L⟩=some (.int .i64 0,⟨(τ (f k s) (f k s)).ps++more,false,L⟩))
 {more:List (Bool × List Blk)} {st st':St} (hst:st.ps=(τ s s).ps++more) (hst':st'.ps=(τ (x.ks.foldl (fun s k=>f k s) (s++[h])) (x.ks.foldl (fun s k=>f k s) (s++[h]))).ps++more) :
 S Tb JT [.ptr la (b+5) 0 0 0,.int .u64 h,.map lm mx,.func (.func g) [] caps] st=some (.int .i64 0,st'):=by
 refine ZAc Y (fun A hA=>?_)
 have hA2:A=(τ s s).ps++more:=hA.trans hst;clear hA;subst hA2
 have hlk:=fun L=>ZFk (ZCS (hV.get s s) more false L) h
 simp only[decide_eq_false hs]at hlk;have hl0:=hlen 0;simp only[List.take_zero,List.foldl_nil,lL,List.length_singleton]at hl0
 repeat'(first|refine ZE ?_|refine ZD ?_|refine ZG Y ?_|refine ZB Y ?_|refine ZC ?_|refine ZH Y ?_|refine Ya Y Y (hlk _) ?_|refine ZI ?_)
 all_goals try contradiction
 refine ZoI Y Y Y (hV.wr s s) (hV.get s s) Y (ZOS h s hs) ?_;rw[hV.upd]
 have hG:=fun L=>ZhZ ((hR (s++[h]) s).more more false L) hx hk4
 have hcp:x.copy.av=.agg [.int .i64 x.h,.str x.text,.lit (x.ks.map Kid.av)]:=rfl;rw[hcp]at hG
 obtain⟨v,hc⟩:=hV.call (s++[h]) s h more [.arr 3 0 [.agg [.int .i64 x.h,.str x.text,.lit (x.ks.map Kid.av)]]] (by omega)
 generalize hA1:(τ (s++[h]) s).ps++more=A1 at *
 repeat'(first|refine ZA Y Y (hV.wk h) hc ?_|refine ZE ?_|refine ZD ?_|refine ZG Y ?_|refine ZU Y Y ?_|refine Zs Y Y ?_|refine ZB Y ?_|refine ZC ?_|(refine cm0 Y Y Y ?_ ?_<;>intro _<;>try omega)|refine ZH Y ?_|refine Ze Y Y Y ?_|refine Zr Y Y Y Y Y Y ?_|refine ZA Y Y Y (hG _) ?_|refine ZI ?_)
 all_goals try contradiction
 obtain⟨A2,hA2⟩:∃A2,A2=(τ (s++[h]) (s++[h])).ps++more:=⟨_,rfl⟩
 have e12:A1.length=A2.length:=by
  have:=hV.len (s++[h]) s (s++[h]) (s++[h])
  rw[<- hA1,hA2];simp only[lL]at this ⊢;omega
 rw[<- hA2,e12]
 repeat'(first|refine XH Y ?_|refine ZG Y ?_|refine ZP Y Y Y Y ?_|refine ZB Y ?_|refine ZC ?_|refine ZL ?_)
 refine Z2 (α:=Nat × List Blk) (fun p=>[(0,.ptr la (b+5) 0 0 0),(2,.map lm mx),(3,.func (.func g) [] caps),(32,.lit (x.ks.map Kid.av)),(33,.int .i64 x.ks.length),(34,.int .i64 p.1)])
  (fun p=>⟨(τ ((x.ks.take p.1).foldl (fun s k=>f k s) (s++[h])) ((x.ks.take p.1).foldl (fun s k=>f k s) (s++[h]))).ps++more,false,.arr 3 0 [.agg [.int .i64 x.h,.str x.text,.lit (x.ks.map Kid.av)]]::p.2⟩) (fun p=>p.1<=x.ks.length) (fun p=>x.ks.length-p.1) (0,[]) rfl (by rw[hA2];rfl) (Nat.zero_le _) ?_
 rintro⟨i,G⟩ hi
 simp only at hi ⊢
 rcases Nat.lt_or_ge i x.ks.length with hlt|hge
 ·obtain⟨kd,hk⟩:∃k,x.ks[i]?=some k:=⟨x.ks[i]'hlt,jE _⟩
  have qk:0<=((i:Nat):Int)/\x.ks[((i:Nat):Int).toNat]?=some kd:=⟨by omega,by rw[show ((i:Nat):Int).toNat=i by omega];exact hk⟩
  have hcl:=fun L=>hf kd (jM hk) _ more L (hlen i)
  have hnx:(x.ks.take (i+1)).foldl (fun s k=>f k s) (s++[h])=f kd ((x.ks.take i).foldl (fun s k=>f k s) (s++[h])):=by
   rw[Zb hk,List.foldl_append];rfl
  rw[<- hnx]at hcl
  generalize hP:(τ ((x.ks.take (i+1)).foldl (fun s k=>f k s) (s++[h])) ((x.ks.take (i+1)).foldl (fun s k=>f k s) (s++[h]))).ps++more=P at *
  generalize (τ ((x.ks.take i).foldl (fun s k=>f k s) (s++[h])) ((x.ks.take i).foldl (fun s k=>f k s) (s++[h]))).ps++more=A3 at *
  repeat'(first|refine JD (f:=Kid.av) Y Y qk (fun _=>rfl) ?_|refine ZA Y Y (hV.wk2 _ _ _) (hcl _) ?_|refine ZE ?_|refine ZD ?_|refine ZG Y ?_|refine ZU Y Y ?_|refine ZB Y ?_|refine ZC ?_|refine Qr Y Y Y ?_|refine QH Y Y ?_|(refine cm0 Y Y Y ?_ ?_<;>intro _<;>try omega)|refine ZW Y ?_|refine ZH Y ?_|refine Zm Y Y (by omega) ?_|refine Zx Y Y Y ?_|refine YA Y Y Y Y Y Y ?_|refine ZI ?_|refine ZL ?_|refine Zz ?_|refine QD ?_)
  all_goals try first|contradiction|omega
  refine⟨(i+1,G++[.arr 4 0 [kd.av]]),⟨rfl,?_⟩,by simp only;omega,by simp only;omega⟩
  simp only
  rw[hP];rfl
 ·obtain rfl:i=x.ks.length:=by omega
  rw[List.take_length]
  repeat'(first|refine ZE ?_|refine ZD ?_|refine ZG Y ?_|refine ZB Y ?_|refine ZC ?_|(refine cm0 Y Y Y ?_ ?_<;>intro _<;>try omega)|refine ZH Y ?_|refine ZQ ?_|refine Zv ?_|refine ZO ?_|refine Zf ?_|refine Zc Y ?_|refine Zu ?_)
  all_goals try omega
  refine Zi (st:=st') hst'.symm (.inr Y) Y Y Y Y ?_;rfl
theorem ZaI{τ:List Nat->List Nat->St}(hV:Visit τ lm mx g caps){b:Nat}{h:Nat}(s:List Nat)(hs:h∈s){more:List (Bool × List Blk)}(hst:st.ps=(τ s s).ps++more):
 S Tb JT [.ptr la (b+5) 0 0 0,.int .u64 h,.map lm mx,.func (.func g) [] caps] st=some (.int .i64 0,st):=by
 refine ZAc Y (fun A hA=>?_)
 have hA2:A=(τ s s).ps++more:=hA.trans hst;have hA0:=hA;clear hA;subst hA2
 have hlk:=fun L=>ZFk (ZCS (hV.get s s) more false L) h
 simp only[decide_eq_true hs]at hlk
 repeat'(first|refine ZE ?_|refine ZD ?_|refine ZG Y ?_|refine ZB Y ?_|refine ZC ?_|refine ZW Y ?_|refine Ya Y Y (hlk _) ?_|refine ZQ ?_|refine ZO ?_|refine Za ?_)
 all_goals try contradiction
 refine Zi (st:=st) hA0 (.inr Y) Y Y Y Y ?_;rfl
theorem ZoJ{s t:St}(h:s.ps=t.ps):s=t:=by
 obtain⟨A,r,L⟩:=s;obtain⟨A',r',L'⟩:=t
 have:=List.append_inj' h rfl
 obtain⟨rfl,h2⟩:=this;simp only[List.cons.injEq,jP,and_true]at h2;obtain⟨rfl,rfl⟩:=h2;rfl
theorem Zko{τ:List Nat->List Nat->St}(hV:Visit τ lm mx g caps){N:ZJ}(hN:GoodN N){b:Nat}(hR:∀u w,Rd (τ u w) la (b+5) N):∀(n h:Nat) (x:Nd) (s:List Nat),lk N h=some x->x.h=n->s.length+4 ^ (n+1)<=900000000->∀ {more:List (Bool × List Blk)} {st st':St},st.ps=(τ s s).ps++more->st'.ps=(τ (bel N n h s) (bel N n h s)).ps++more ->
 S Tb JT [.ptr la (b+5) 0 0 0,.int .u64 h,.map lm mx,.func (.func g) [] caps] st=some (.int .i64 0,st'):=by
 intro n
 induction n with
 | zero =>
  intro h x s hx hh hb more st st' hst hst'
  by_cases hm:h∈s
  ·rw[bel,if_pos hm,<- hst]at hst'
   rw[ZoJ hst'];exact ZaI hV s hm hst
  ·rw[bel,if_neg hm]at hst'
   have hks:x.ks=[]:=by
    rcases (hN h x hx).1 with q|⟨m,ks,q⟩
    ·exact q.ks
    ·have e:=q.eq;subst e;simp at hh
   refine ZaH hV hR hx (by rw[hks];decide) s hm (fun _ s=>s) (Nat.le_refl _) (fun i=>?_) (fun k hk=>by rw[hks]at hk;simp at hk) hst (by rw[hks];exact hst')
   rw[hks,List.take_nil,List.foldl_nil,lL,List.length_singleton]
   simp at hb;omega
 | succ n ih =>
  intro h x s hx hh hb more st st' hst hst'
  by_cases hm:h∈s
  ·rw[bel,if_pos hm,<- hst]at hst'
   rw[ZoJ hst'];exact ZaI hV s hm hst
  ·rw[bel,if_neg hm,Qw hx]at hst'
   have hk4:=(hN h x hx).1.len;have hkids:=(hN h x hx).2
   have hp:4 ^ (n+1+1)=4*4 ^ (n+1):=by rw[Nat.pow_succ];omega
   have h1:4<=4 ^ (n+1):=by rw[Nat.pow_succ];have:0<4 ^ n:=Nat.pow_pos (by decide);omega
   refine ZaH hV hR hx hk4 s hm (fun k s=>bel N n k.at_ s) (B:=900000000-4 ^ (n+1)) (by omega) (fun i=>?_) (fun k hk s' more' L hl=>?_) hst hst'
   ·have:=ZiE (Zqs hN n) (x.ks.take i) (s++[h]) (fun k hk=>by obtain⟨_,y,y1,y2,_⟩:=hkids k (List.mem_of_mem_take hk);exact⟨y,y1,by omega⟩)
    rw[lL,List.length_singleton]at this
    have hti:(x.ks.take i).length<=4:=by rw[List.length_take];omega
    have h4:(x.ks.take i).length*4 ^ (n+1)<=4*4 ^ (n+1):=Nat.mul_le_mul_right _ hti
    generalize (x.ks.take i).length*4 ^ (n+1)=P2 at *
    generalize 4 ^ (n+1)=P at *
    omega
   ·obtain⟨_,y,y1,y2,_⟩:=hkids k hk
    exact ih k.at_ y s' y1 (by omega) (by omega) (more:=more'++[(false,L)]) (List.append_assoc ..) (List.append_assoc ..)
theorem ZiF:∀l:List Tr,(∀t∈l,4*(t.siz:Int)+4<=t.bytes)->4*(Tr.sizL l:Int)+4*l.length<=Tr.bytesL l
 | [],_=>by simp[Tr.sizL,Tr.bytesL]
 | t::l,h=>by
  have h1:=h t (by simp)
  have h2:=ZiF l fun u hu=>h u (by simp[hu])
  simp only[Tr.sizL,Tr.bytesL,List.length_cons];omega
theorem ZoK{N:ZJ}(hN:GoodN N)(hv:Val N t):(t.siz:Int)<=t.bytes+1/\(Big t->4*(t.siz:Int)+4<=t.bytes):=by
 have hsz:=hv.size hN;have hps:=hv.pos.2
 induction hv with
 | @kept o h m k x h0 hx hok hh hm hk =>
  have ec:(Tr.mk o h m [] k).siz=1:=by rw[Tr.siz,Tr.sizO_getD,hk];rfl
  have hl:h<=16:=by
   rcases hok with q|⟨n,ks,q⟩
   ·rw[<- hh,q.h];omega
   ·have:=q.n15;have e:=q.eq;subst e;simp only at hh;omega
  rw[ec]
  refine⟨by omega,fun q=>?_⟩
  have h1:=hsz q;have h2:=(ZEN hl).1;simp only[Tr.h]at h1;omega
 | @leaf s k h1 h2 hk =>
  have ec:(Tr.mk 0 0 .zero s k).siz=1:=by rw[Tr.siz,Tr.sizO_getD,hk];rfl
  rw[ec]
  refine⟨by omega,fun q=>?_⟩
  have:=q rfl
  omega
 | @inner h l hh h2 h4 hl hb hv ih =>
  have ec:(Tr.mk 0 (h+1) .zero [] (some l)).siz=Tr.sizL l+1:=by rw[Tr.siz,Tr.sizO];omega
  have eb:(Tr.mk 0 (h+1) .zero [] (some l)).bytes=Tr.bytesL l:=by rw[Tr.bytes,Tr.bytesO];simp[Mea.zero]
  have:=ZiF l fun u hu=>(ih u hu ((hv u hu).size hN) (hv u hu).pos.2).2 (fun q=>hb u hu (by rw[<- hl u hu];exact q))
  rw[ec,eb]
  exact⟨by omega,fun _=>by omega⟩
theorem ZoL{N:ZJ}(hv:Val N t):∀out:List Nat,(∀h∈out,∃x,lk N h=some x)->∀h∈t.kwT out,∃x,lk N h=some x:=by
 induction hv with
 | @kept o h m k x h0 hx hok hh hm hk =>
  intro out ho a ha;rw[Tr.kwT,Tr.kwO_getD,hk,Tr.kwL]at ha
  split at ha
  ·rcases List.mem_append.1 ha with q|q
   ·exact ho a q
   ·rw[List.mem_singleton.1 q];exact⟨x,hx⟩
  ·exact ho a ha
 | @leaf s k h1 h2 hk =>
  intro out ho a ha
  rw[Tr.kwT,Tr.kwO_getD,hk,Tr.kwL,if_neg (by simp)]at ha
  exact ho a ha
 | @inner h l hh h2 h4 hl hb hv ih =>
  intro out ho a ha
  rw[Tr.kwT,Tr.kwO,if_neg (by simp)]at ha
  have key:∀(l:List Tr) (out:List Nat),(∀t∈l,∀out:List Nat,(∀h∈out,∃x,lk N h=some x)->∀h∈t.kwT out,∃x,lk N h=some x)->(∀h∈out,∃x,lk N h=some x)->∀a∈Tr.kwL l out,∃x,lk N a=some x:=by
   intro l
   induction l with
   | nil=>intro out _ ho a ha;exact ho a ha
   | cons t l ihl =>
    intro out hi ho a ha;rw[Tr.kwL]at ha
    exact ihl (t.kwT out) (fun u hu=>hi u (List.mem_cons_of_mem _ hu)) (hi t (by simp) out ho) a ha
  exact key l out ih ho a ha
theorem Zss(h:Nat)(st:St):S Tb YT [.int .u64 h] st=some (.tup [],st):=by
 refine QK Y (fun A hA=>?_)
 repeat'(first|refine ZI ?_|refine ZO ?_)
 refine Zi hA (by simp) Y Y Y Y ?_
 rfl
def dr1(A:List (Bool × List Blk))(b4 b5 b8:Blk)(u:List Nat):St:=⟨A,false,[b4,b5,b8,.map (YH u),.arr 1 0 [.map A.length 3]]⟩
def dr2(A:List (Bool × List Blk))(b4 b5 b8:Blk)(has u o:List Nat):St:=⟨A,false,[b4,b5,b8,.map (YH has),.arr 1 0 [.map A.length 3],.arr 1 o.length (o.map QB),.arr 1 0 [.ref A.length 5 o.length 0 o.length],.map (YH u)]⟩
theorem ZsH(A:List (Bool × List Blk))(b4 b5 b8:Blk):Visit (fun u _=>dr1 A b4 b5 b8 u) A.length 3 YT [] where
 len _ _ _ _:=by simp[dr1]
 wr _ _:=by simp[St.wr,dr1]
 get _ _:=St.get_cur ..
 upd _ _ _:=by simp[St.upd,dr1]
 call u w h more L _:=⟨_,Zss h _⟩
 wk _:=rfl
 wk2 _ _ _:=rfl
theorem ZsI(A:List (Bool × List Blk))(b4 b5 b8:Blk)(has u o:List Nat):Cl (dr2 A b4 b5 b8 has u o) [(A.length,5),(A.length,6)] [.arr 1 o.length (o.map QB),.arr 1 0 [.ref A.length 5 o.length 0 o.length]]:=by
 refine⟨by simp,rfl,fun k hk=>?_,fun j lv ix b h1 h2=>?_⟩
 ·simp only[List.mem_cons,List.not_mem_nil,or_false]at hk
  rcases hk with rfl|rfl<;>simp[St.wr,dr2]
 ·match j,h1,h2 with
  | 0,h1,h2=>obtain⟨rfl,rfl⟩:=Prod.mk.inj (Option.some.inj h1);obtain rfl:=Option.some.inj h2;exact St.get_cur ..
  | 1,h1,h2=>obtain⟨rfl,rfl⟩:=Prod.mk.inj (Option.some.inj h1);obtain rfl:=Option.some.inj h2;exact St.get_cur ..
  | n+2,h1,h2=>simp at h1
theorem Zqt(A:List (Bool × List Blk))(b4 b5 b8:Blk)(has u o o':List Nat):Qp (dr2 A b4 b5 b8 has u o) [(A.length,5),(A.length,6)] [.arr 1 o'.length (o'.map QB),.arr 1 0 [.ref A.length 5 o'.length 0 o'.length]]=dr2 A b4 b5 b8 has u o':=by
 simp[Qp,St.upd,dr2]
theorem Zst(A:List (Bool × List Blk))(b4 b5 b8:Blk)(has u o:List Nat)(h:Nat)(more:List (Bool × List Blk))(L:List Blk)(hl:o.length<1000000000):
 S Tb YU [.int .u64 h,.ptr A.length 4 0 0 0,.ptr A.length 6 0 0 0] ⟨(dr2 A b4 b5 b8 has u o).ps++more,false,L⟩=some (.tup [],⟨(dr2 A b4 b5 b8 has u (if h∈has then o else o++[h])).ps++more,false,L⟩):=by
 have H:=(ZsI A b4 b5 b8 has u o).more more false L;have hm4:St.get ⟨(dr2 A b4 b5 b8 has u o).ps++more,false,L⟩ A.length 4=some (.arr 1 0 [.map A.length 3]):=ZCS (s:=dr2 A b4 b5 b8 has u o) (St.get_cur ..) more false L;have hm3:St.get ⟨(dr2 A b4 b5 b8 has u o).ps++more,false,L⟩ A.length 3=some (.map (YH has)):=ZCS (s:=dr2 A b4 b5 b8 has u o) (St.get_cur ..) more false L
 by_cases hm:h∈has
 ·rw[if_pos hm]
  refine QK Y (fun A1 hA=>?_)
  have g4:=fun L'=>ZX hA (ro:=false) (L:=L') hm4
  have hlk:=fun L'=>ZFk (ZX hA (ro:=false) (L:=L') hm3) h
  simp only[decide_eq_true hm]at hlk
  repeat'(first|refine ZE ?_|refine ZD ?_|refine ZG Y ?_|refine ZB Y ?_|refine ZC ?_|refine ZH Y ?_|refine JC Y Y ?_|refine Z9 Y (g4 _) Y Y ?_|refine Ya Y Y (hlk _) ?_|refine ZI ?_|refine ZO ?_)
  all_goals try contradiction
  refine Zi hA (by simp) Y Y Y Y ?_
  rfl
 ·rw[if_neg hm]
  have e:Qp ⟨(dr2 A b4 b5 b8 has u o).ps++more,false,L⟩ [(A.length,5),(A.length,6)] [.arr 1 (o++[h]).length ((o++[h]).map QB),.arr 1 0 [.ref A.length 5 (o++[h]).length 0 (o++[h]).length]]=⟨(dr2 A b4 b5 b8 has u (o++[h])).ps++more,false,L⟩:=by
   rw[ZRl (fun k hk=>by simp only[List.mem_cons,List.not_mem_nil,or_false]at hk;rcases hk with rfl|rfl<;>exact Nat.le_refl _),Zqt]
  rw[<- e]
  refine ZAc Y (fun A1 hA=>?_)
  have hA':A1=(Qp ⟨(dr2 A b4 b5 b8 has u o).ps++more,false,L⟩ [(A.length,5),(A.length,6)] [.arr 1 o.length (o.map QB),.arr 1 0 [.ref A.length 5 o.length 0 o.length]]).ps:=by rw[H.same];exact hA
  have g4:=fun L'=>ZX hA (ro:=false) (L:=L') hm4
  have hlk:=fun L'=>ZFk (ZX hA (ro:=false) (L:=L') hm3) h
  simp only[decide_eq_false hm]at hlk
  have g6:=fun L'=>H.old hA' rfl rfl (ro:=false) (L:=L') (j:=1) rfl rfl
  repeat'(first|refine ZE ?_|refine ZD ?_|refine ZG Y ?_|refine ZB Y ?_|refine ZC ?_|refine ZW Y ?_|refine JC Y Y ?_|refine Qc Y Y Y Y ?_|refine Z9 Y (g4 _) Y Y ?_|refine Ya Y Y (hlk _) ?_|refine Z9 Y (g6 _) Y Y ?_)
  all_goals try contradiction
  refine ZkM (es:=o.map QB) (ys:=[.int .u64 h]) H hA' Y Y (j:=0) Y Y (by rw[List.length_map];rfl) rfl rfl rfl rfl (by rw[List.length_map,List.length_singleton];omega) (by decide) (fun A2 hA2 _=>?_)
  skip
  refine ZRa H hA2 Y Y (j:=1) Y Y Y Y Y (Ja _ (Nat.lt_succ_self _)) Y (fun A3 hA3 _=>?_)
  repeat'(first|refine ZB Y ?_|refine ZO ?_)
  have e3:((([Blk.arr 1 o.length (o.map QB),Blk.arr 1 0 [.ref A.length 5 o.length 0 o.length]].set 0 (.arr 1 (o.length+1) (o.map QB++[.int .u64 h]))).set 1 (.arr 1 0 ([AV.ref A.length 5 o.length 0 o.length].set 0 (.ref A.length 5 (o.length+1) 0 ((o.map QB).length+[AV.int .u64 (h:Int)].length))))))=[.arr 1 (o++[h]).length ((o++[h]).map QB),.arr 1 0 [.ref A.length 5 (o++[h]).length 0 (o++[h]).length]]:=by
   simp[QB]
  replace hA3:A3=(Qp ⟨(dr2 A b4 b5 b8 has u o).ps++more,false,L⟩ [(A.length,5),(A.length,6)] [.arr 1 (o++[h]).length ((o++[h]).map QB),.arr 1 0 [.ref A.length 5 (o++[h]).length 0 (o++[h]).length]]).ps:=by rw[<- e3];exact hA3
  refine Zi hA3 (.inl Y) Y Y Y Y ?_;rfl
theorem ZsJ(A:List (Bool × List Blk))(b4 b5 b8:Blk)(has:List Nat):Visit (fun u w=>dr2 A b4 b5 b8 has u (w.filter fun h=>decide (h∉has))) A.length 7 YU [.ptr A.length 4 0 0 0,.ptr A.length 6 0 0 0] where
 len _ _ _ _:=by simp[dr2]
 wr _ _:=by simp[St.wr,dr2]
 get _ _:=St.get_cur ..
 upd _ _ _:=by simp[St.upd,dr2]
 call u w h more L hl:=by
  refine⟨.tup [],(Zst A b4 b5 b8 has u (w.filter fun h=>decide (h∉has)) h more L (Nat.lt_of_le_of_lt (List.length_filter_le ..) hl)).trans ?_⟩
  rw[List.filter_append]
  by_cases hm:h∈has
  ·rw[if_pos hm,show ([h].filter fun h=>decide (h∉has))=[] by simp[hm],lN]
  ·rw[if_neg hm,show ([h].filter fun h=>decide (h∉has))=[h] by simp[hm]]
 wk _:=rfl
 wk2 _ _ _:=rfl
def ZJi(N:ZJ)(l:List Nat):List Nat:=l.foldl (fun s h=>bel N (Yr N h).h h s) []
def Xk(N:ZJ)(r:Ro)(t:Tr):List Nat:=if r.at_=0 then [] else (bel N r.h r.at_ []).filter fun h=>decide (h∉ZJi N (t.kwT []))
theorem ZsK{N:ZJ}(hN:GoodN N){h:Nat}{x:Nd}(h0:h≠0)(hx:lk N h=some x):x.h<=13 :=
 RtOk.h13 hN (r:=⟨h,x.h,x.mea⟩) (.inr ⟨h0,x,hx,(hN h x hx).1,rfl,rfl⟩)
def Lv(N:ZJ)(l:List Nat):Prop:=l.Nodup/\∀o∈l,∃x,lk N o=some x
theorem Lv.snoc{N:ZJ}(h:Lv N l)(ho:∃x,lk N o=some x)(hn:o∉l):Lv N (l++[o]):=by
 refine⟨?_,fun a ha=>?_⟩
 ·rw[List.nodup_append]
  refine⟨h.1,by simp,fun x hx y hy=>?_⟩
  rw[List.mem_singleton]at hy;intro e;rw[e,hy]at hx;exact hn hx
 ·rcases List.mem_append.1 ha with q|q
  ·exact h.2 a q
  ·rw[List.mem_singleton.1 q];exact ho
theorem Zji{N:ZJ}(hN:GoodN N):∀(n h:Nat) (s:List Nat) (x:Nd),lk N h=some x->x.h=n->Lv N s->Lv N (bel N n h s):=by
 intro n
 induction n with
 | zero =>
  intro h s x hx hh hs;rw[bel]
  split
  ·exact hs
  ·rename_i q;exact hs.snoc ⟨x,hx⟩ q
 | succ n ih =>
  intro h s x hx hh hs;rw[bel,Qw hx]
  split
  ·exact hs
  ·rename_i q
   have key:∀(ks:List Kid) (s:List Nat),(∀k∈ks,∃y,lk N k.at_=some y/\y.h=n)->Lv N s->Lv N (ks.foldl (fun s k=>bel N n k.at_ s) s):=by
    intro ks
    induction ks with
    | nil=>intro s _ h;exact h
    | cons k l ihl =>
     intro s hk h
     obtain⟨y,y1,y2⟩:=hk k (by simp)
     exact ihl _ (fun z hz=>hk z (List.mem_cons_of_mem _ hz)) (ih k.at_ s y y1 y2 h)
   exact key x.ks _ (fun k hk=>by obtain⟨_,y,y1,y2,_⟩:=(hN h x hx).2 k hk;exact⟨y,y1,by omega⟩) (hs.snoc ⟨x,hx⟩ q)
theorem Zqu{N:ZJ}(hN:GoodN N)(hl:∀h∈l,∃x,lk N h=some x):Lv N (ZJi N l):=by
 have key:∀(l s:List Nat),(∀h∈l,∃x,lk N h=some x)->Lv N s->Lv N (l.foldl (fun s h=>bel N (Yr N h).h h s) s):=by
  intro l
  induction l with
  | nil=>intro s _ h;exact h
  | cons a l ih =>
   intro s hl h
   obtain⟨x,hx⟩:=hl a (by simp)
   refine ih _ (fun z hz=>hl z (List.mem_cons_of_mem _ hz)) ?_
   show Lv N (bel N (Yr N a).h a s)
   rw[Qw hx];exact Zji hN _ a s x hx Y h
 exact key l [] hl ⟨by simp,by simp⟩
theorem ZoM{N:ZJ}(hN:∀o x,lk N o=some x->o≠0)(hv:VE N t):∀h∈t.kwT [],h≠0/\∃x,lk N h=some x:=by
 intro h hh
 rcases hv with q|q
 ·obtain⟨o,th,m,s,k⟩:=t
  have e1:=q.old;have e2:=q.ks;simp only[Tr.old,Tr.ks]at e1 e2;rw[Tr.kwT,Tr.kwO_getD,e2,Tr.kwL,e1]at hh
  simp at hh
 ·obtain⟨x,hx⟩:=ZoL q [] (by simp) h hh
  exact⟨hN h x hx,x,hx⟩
theorem ZoN{N:ZJ}(hN:GoodN N)(hv:VE N t)(hb:t.bytes<=65536):t.siz<4294967296:=by
 rcases hv with q|q
 ·obtain⟨o,th,m,s,k⟩:=t
  have e2:=q.ks;simp only[Tr.ks]at e2;rw[Tr.siz,Tr.sizO_getD,e2,Tr.sizL];omega
 ·have:=(ZoK hN q).1;omega
theorem Zdq{b:Nat}{N:ZJ}(hN:GoodN N)(hK:∀l,Lv N l->l.length<=16384)(hz:∀o x,lk N o=some x->o≠0)(hR:Rd st la (b+5) N){r:Ro}(hr:RtOk N r)(hv:VE N t)(hb:t.bytes<=65536):
 S Tb ZAS [.ptr la (b+5) 0 0 0,r.av,t.av] st=some (.tup [.lit ((Xk N r t).map QB),.int .i64 0],st):=by
 refine QK Y (fun A hA=>?_)
 have hRA:=fun L=>hR.push hA (ro:=false) (L:=L)
 have hKp:=fun L=>ZOU (hRA L) hr
 have hCk:=fun L=>ZEP (hRA L) hv hb
 have hKt:=fun st=>Zr0 hv.pos.1 (ZoN hN hv hb) st
 have hkw:=ZoM hz hv;have hkl:=Tr.kwT_len t [];have hsz:=ZoN hN hv hb;unfold Xk
 generalize t.kwT []=kl at *
 simp only[List.length_nil]at hkl
 have hP13:∀n,n<=13->4 ^ (n+1)<=268435456:=fun n hn=>by
  have:4 ^ (n+1)<=4 ^ 14:=Nat.pow_le_pow_right (by decide) (by omega)
  exact this
 have hB1:∀(i h:Nat),kl[i]?=some h->S Tb JT [.ptr la (b+5) 0 0 0,.int .u64 h,.map A.length 3,.func (.func YT) [] []] (dr1 A (.arr 5 0 [r.av]) (.arr 7 0 [t.av]) (.arr 7 0 [(YF r).av]) (ZJi N (kl.take i)))=some (.int .i64 0,dr1 A (.arr 5 0 [r.av]) (.arr 7 0 [t.av]) (.arr 7 0 [(YF r).av]) (ZJi N (kl.take (i+1)))):=by
  intro i h hi;obtain⟨h0,x,hx⟩:=hkw h (jM hi)
  have hlv:=Zqu hN (l:=kl.take i) (fun z hz=>(hkw z (List.mem_of_mem_take hz)).2)
  have:=hK _ hlv
  have:=hP13 _ (ZsK hN h0 hx)
  have e:ZJi N (kl.take (i+1))=bel N x.h h (ZJi N (kl.take i)):=by
   rw[Zb hi];unfold ZJi;rw[List.foldl_append,List.foldl_cons,List.foldl_nil,Qw hx]
  rw[e]
  exact Zko (ZsH A _ _ _) hN (fun _ _=>hRA _) x.h h x _ hx Y (by omega) (more:=[]) (lN _).symm (lN _).symm
 have hB2:r.at_≠0->S Tb JT [.ptr la (b+5) 0 0 0,.int .u64 r.at_,.map A.length 7,.func (.func YU) [] [.ptr A.length 4 0 0 0,.ptr A.length 6 0 0 0]] (dr2 A (.arr 5 0 [r.av]) (.arr 7 0 [t.av]) (.arr 7 0 [(YF r).av]) (ZJi N kl) [] [])=some (.int .i64 0,dr2 A (.arr 5 0 [r.av]) (.arr 7 0 [t.av]) (.arr 7 0 [(YF r).av]) (ZJi N kl) (bel N r.h r.at_ []) ((bel N r.h r.at_ []).filter fun h=>decide (h∉ZJi N kl))):=by
  intro h0
  obtain⟨x,x1,x2,x3,x4⟩:∃x,lk N r.at_=some x/\NdOk x/\x.h=r.h/\x.mea=r.m:=by
   rcases hr with rfl|w
   ·exact absurd Y h0
   ·exact w.2
  have:=hP13 _ (hr.h13 hN)
  exact Zko (ZsJ A (.arr 5 0 [r.av]) (.arr 7 0 [t.av]) (.arr 7 0 [(YF r).av]) (ZJi N kl)) hN (fun _ _=>hRA _) r.h r.at_ x [] x1 x3 (by simp only[List.length_nil];omega) (more:=[]) (lN _).symm (lN _).symm
 have hkll:kl.length<1000000000:=by
  have:kl.length<=t.siz:=by omega
  have h2:(t.siz:Int)<=65537:=by
   rcases hv with q|q
   ·obtain⟨o,th,m,s,k⟩:=t
    have e2:=q.ks;simp only[Tr.ks]at e2;rw[Tr.siz,Tr.sizO_getD,e2,Tr.sizL];decide
   ·have:=(ZoK hN q).1;omega
  omega
 unfold dr1 at hB1;unfold dr2 at hB2;obtain⟨ra,rh,rm⟩:=r
 unfold Ro.av at *
 generalize YF ⟨ra,rh,rm⟩=kt at *
 repeat'(first|refine ZE ?_|refine ZD ?_|refine ZG Y ?_|refine ZP Y Y Y Y ?_|refine Zs Y Y ?_|refine ZB Y ?_|refine ZC ?_|(refine cm0 Y Y Y ?_ ?_<;>intro _<;>try omega)|refine ZH Y ?_|refine Ze Y Y Y ?_|refine ZBD Y ?_|refine ZA Y Y (by first|rfl|(simp only[lE,lN,lC,ZY,ZS,ZV];first|done|rfl)) (hKp _) ?_|refine ZA Y Y (by first|rfl|(simp only[lE,lN,lC,ZY,ZS,ZV];first|done|rfl)) (hCk _) ?_|refine ZP Y Y Y (Zk _) ?_|refine Zr Y Y Y (Z7 _ _ _) (QQ _ _) Y ?_|refine Zx Y (Z0 _) (QA _) ?_|refine ZI ?_)
 all_goals try contradiction
 refine Zr Y Y Y (by simp only[ZZ,QF,if_pos (Nat.lt_succ_self _)]) Y Y ?_
 repeat'(first|refine ZP Y Y Y (Zk _) ?_|refine XH Y ?_|refine ZE ?_|refine ZD ?_|refine ZG Y ?_|refine ZB Y ?_|refine ZC ?_|refine ZA Y Y (by first|rfl|(simp only[lE,lN,lC,ZY,ZS,ZV];first|done|rfl)) (hKt _) ?_|refine ZL ?_)
 refine Z2 (α:=Nat) (fun i=>[(0,.ptr la (b+5) 0 0 0),(4,.ptr A.length 0 0 0 0),(11,.ptr A.length 4 0 0 0),(34,.lit (kl.map QB)),(35,.int .i64 kl.length),(36,.int .i64 i)])
  (fun i=>⟨A,false,[.arr 5 0 [Ro.av ⟨ra,rh,rm⟩],.arr 7 0 [t.av],.arr 7 0 [kt.av],.map (YH (ZJi N (kl.take i))),.arr 1 0 [.map A.length 3]]⟩) (fun i=>i<=kl.length) (fun i=>kl.length-i) 0 rfl rfl (Nat.zero_le _) ?_
 intro i hi;replace hi:i<=kl.length:=hi;unfold Ro.av
 rcases Nat.lt_or_ge i kl.length with hlt|hge
 ·obtain⟨h,hh⟩:∃x,kl[i]?=some x:=⟨kl[i]'hlt,jE _⟩
  have q:0<=((i:Nat):Int)/\kl[((i:Nat):Int).toNat]?=some h:=⟨by omega,by rw[show ((i:Nat):Int).toNat=i by omega];exact hh⟩
  have hB:=hB1 i h hh
  repeat'(first|refine JD (f:=QB) Y Y q (fun _=>rfl) ?_|refine ZA Y Y Y hB ?_|refine ZE ?_|refine ZD ?_|refine ZG Y ?_|refine ZP Y Y Y Y ?_|refine ZB Y ?_|refine ZC ?_|refine QH Y Y ?_|(refine cm0 Y Y Y ?_ ?_<;>intro _<;>try omega)|refine ZW Y ?_|refine ZH Y ?_|refine Zm Y Y (by omega) ?_|refine ZI ?_|refine ZL ?_|refine Zz ?_|refine QD ?_)
  all_goals try first|contradiction|omega
  exact⟨i+1,⟨rfl,rfl⟩,by omega,by omega⟩
 ·obtain rfl:i=kl.length:=by omega
  rw[List.take_length]
  by_cases h0:ra=0
  ·subst h0
   repeat'(first|refine ZLY ?_|refine ZE ?_|refine ZD ?_|refine ZG Y ?_|refine ZU Y Y ?_|refine ZP Y Y Y Y ?_|refine ZB Y ?_|refine ZC ?_|(refine cm0 Y Y Y ?_ ?_<;>intro _<;>try omega)|refine ZW Y ?_|refine ZH Y ?_|refine Xb Y Y ?_|refine ZBD Y ?_|refine ZI ?_|refine ZQ ?_|refine Zv ?_|refine ZO ?_|refine Za ?_|refine Zf ?_|refine Zc Y ?_|refine Zu ?_)
   all_goals try first|contradiction|omega
   refine Zi hA (by simp) Y Y Y Y ?_
   rfl
  ·have hB:=hB2 h0
   have h0i:((ra:Nat):Int)≠0:=by omega
   simp only[if_neg h0]
   generalize (bel N rh ra []).filter (fun h=>decide (h∉ZJi N kl))=out at *
   repeat'(first|refine ZLY ?_|refine ZA Y Y Y hB ?_|refine ZE ?_|refine ZD ?_|refine ZG Y ?_|refine ZU Y Y ?_|refine ZP Y Y Y Y ?_|refine ZB Y ?_|refine ZC ?_|(refine cm0 Y Y Y ?_ ?_<;>intro _<;>try omega)|refine ZH Y ?_|refine Xb Y Y ?_|refine ZBD Y ?_|refine ZI ?_|refine ZQ ?_|refine Zv ?_|refine ZO ?_|refine Zf ?_|refine Zc Y ?_|refine Zu ?_)
   all_goals try first|contradiction|omega
   exact ZHB hA (.inr Y) Y Y (by simp) (fun v hv=>by obtain⟨x,_,rfl⟩:=List.mem_map.1 hv;rfl) rfl rfl
theorem Xl:∀(v w:List Nat) (x:Nat),x∈v.foldl QY w↔x∈w\/x∈v
 | [],w,x=>by simp
 | a::v,w,x=>by
  rw[List.foldl_cons,Xl v (QY w a) x,Zde,List.mem_cons]
  constructor
  ·rintro ((h|h)|h)<;>simp[h]
  ·rintro (h|h|h)<;>simp[h]
theorem ZJ9:∀(v w:List Nat),(∀x∈v,x∈w)->v.foldl QY w=w
 | [],w,_=>rfl
 | a::v,w,h=>by
  rw[List.foldl_cons,show QY w a=w by unfold QY;rw[if_pos (h a (by simp))]]
  exact ZJ9 v w (fun x hx=>h x (by simp[hx]))
theorem ZSO(p:Nat->Bool):∀(v w:List Nat),(v.filter p).foldl QY (w.filter p)=(v.foldl QY w).filter p
 | [],w=>rfl
 | a::v,w=>by
  rw[List.foldl_cons,<- ZSO p v (QY w a)]
  have e:(QY w a).filter p=if p a=true then QY (w.filter p) a else w.filter p:=by
   unfold QY
   by_cases q:a∈w
   ·rw[if_pos q]
    split
    ·rename_i hp;rw[if_pos (List.mem_filter.2 ⟨q,hp⟩)]
    ·rfl
   ·rw[if_neg q,List.filter_append]
    split
    ·rename_i hp
     rw[if_neg (fun h=>q (List.mem_filter.1 h).1)]
     simp[List.filter_cons,hp]
    ·rename_i hp
     simp[List.filter_cons,hp]
  rw[e,List.filter_cons]
  split
  ·rw[List.foldl_cons]
  ·rfl
theorem ZOc(p:Nat->Bool)(v:List Nat):Z1 (v.filter p)=(Z1 v).filter p:=ZSO p v []
theorem ZV1{N:ZJ}(hN:GoodN N):∀(n h:Nat) (x:Nd),lk N h=some x->x.h=n->∀o∈Ql N n h,∃y,lk N o=some y/\y.h<=n/\∀z∈Ql N y.h o,z∈Ql N n h:=by
 intro n
 induction n with
 | zero =>
  intro h x hx hh o ho;rw[Ql,List.mem_singleton]at ho;subst ho
  exact⟨x,hx,by omega,fun z hz=>by rw[hh]at hz;exact hz⟩
 | succ n ih =>
  intro h x hx hh o ho;have hg:=(hN h x hx).2;rw[Ql,Qw hx,List.mem_cons]at ho
  rcases ho with rfl|ho
  ·exact⟨x,hx,by omega,fun z hz=>by rw[hh]at hz;exact hz⟩
  ·obtain⟨k,hk,ho⟩:=List.mem_flatMap.1 ho
   obtain⟨_,y,y1,y2,_⟩:=hg k hk
   obtain⟨w,w1,w2,w3⟩:=ih k.at_ y y1 (by omega) o ho
   refine⟨w,w1,by omega,fun z hz=>?_⟩
   rw[Ql,Qw hx,List.mem_cons];exact .inr (List.mem_flatMap.2 ⟨k,hk,w3 z hz⟩)
def ClN(N:ZJ)(n:Nat)(s:List Nat):Prop:=∀o∈s,∀y,lk N o=some y->y.h<=n->∀z∈Ql N y.h o,z∈s
theorem Zkp{N:ZJ}(hN:GoodN N):∀(n h:Nat) (x:Nd) (s:List Nat),lk N h=some x->x.h=n->ClN N n s->bel N n h s=(Ql N n h).foldl QY s/\ClN N n (bel N n h s):=by
 intro n
 induction n with
 | zero =>
  intro h x s hx hh hs
  have e:bel N 0 h s=(Ql N 0 h).foldl QY s:=by rw[bel,Ql];rfl
  refine⟨e,?_⟩;rw[e];intro o ho y hy hy0 z hz;rw[Xl]at ho ⊢
  rcases ho with ho|ho
  ·exact .inl (hs o ho y hy hy0 z hz)
  ·obtain⟨w,w1,w2,w3⟩:=ZV1 hN 0 h x hx hh o ho
   rw[hy]at w1;obtain rfl:=Option.some.inj w1;exact .inr (w3 z hz)
 | succ n ih =>
  intro h x s hx hh hs;have hg:=(hN h x hx).2;rw[bel]
  by_cases hm:h∈s
  ·rw[if_pos hm]
   refine⟨(ZJ9 _ _ (fun z hz=>hs h hm x hx (by omega) z (by rw[hh];exact hz))).symm,hs⟩
  ·rw[if_neg hm]
   have key:∀(ks:List Kid) (s:List Nat),(∀k∈ks,k∈x.ks)->ClN N n s->ks.foldl (fun s k=>bel N n k.at_ s) s=(ks.flatMap fun k=>Ql N n k.at_).foldl QY s/\ClN N n (ks.foldl (fun s k=>bel N n k.at_ s) s):=by
    intro ks
    induction ks with
    | nil=>intro s _ hc;exact⟨rfl,hc⟩
    | cons k ks ihk =>
     intro s hk hc
     obtain⟨_,y,y1,y2,_⟩:=hg k (hk k (by simp))
     obtain⟨b1,b2⟩:=ih k.at_ y s y1 (by omega) hc
     rw[List.foldl_cons,List.flatMap_cons,List.foldl_append,<- b1]
     exact ihk _ (fun z hz=>hk z (by simp[hz])) b2
   have hc:ClN N n (s++[h]):=by
    intro o ho y hy hyn z hz
    rcases List.mem_append.1 ho with ho|ho
    ·exact List.mem_append.2 (.inl (hs o ho y hy (by omega) z hz))
    ·rw[List.mem_singleton]at ho
     subst ho;rw[hx]at hy;obtain rfl:=Option.some.inj hy;omega
   rw[Qw hx]
   obtain⟨k1,k2⟩:=key x.ks (s++[h]) (fun k hk=>hk) hc
   have e:x.ks.foldl (fun s k=>bel N n k.at_ s) (s++[h])=(Ql N (n+1) h).foldl QY s:=by
    rw[k1,Ql,Qw hx,List.foldl_cons,show QY s h=s++[h] by unfold QY;rw[if_neg hm]]
   refine⟨e,?_⟩;rw[e];intro o ho y hy hyn z hz;rw[Xl]at ho ⊢
   rcases ho with ho|ho
   ·exact .inl (hs o ho y hy hyn z hz)
   ·obtain⟨w,w1,w2,w3⟩:=ZV1 hN (n+1) h x hx hh o ho
    rw[hy]at w1;obtain rfl:=Option.some.inj w1;exact .inr (w3 z hz)
theorem ZoO{N:ZJ}(hN:GoodN N){h:Nat}{x:Nd}(hx:lk N h=some x):bel N x.h h []=Z1 (Ql N x.h h) :=
 (Zkp hN x.h h x [] hx rfl (fun o ho=>by simp at ho)).1
theorem ZoP{N:ZJ}(hN:GoodN N)(l:List Nat)(hl:∀h∈l,∃x,lk N h=some x)(o:Nat):o∈ZJi N l↔∃k∈l,o∈Ql N (Yr N k).h k:=by
 have key:∀(l:List Nat) (s:List Nat),(∀h∈l,∃x,lk N h=some x)->(∀n,ClN N n s)->(∀n,ClN N n (l.foldl (fun s h=>bel N (Yr N h).h h s) s))/\∀o,o∈l.foldl (fun s h=>bel N (Yr N h).h h s) s↔o∈s\/∃k∈l,o∈Ql N (Yr N k).h k:=by
  intro l
  induction l with
  | nil=>intro s _ hc;exact⟨hc,fun o=>by simp⟩
  | cons a l ih =>
   intro s hl hc
   obtain⟨x,hx⟩:=hl a (by simp)
   rw[List.foldl_cons,Qw hx];obtain⟨b1,b2⟩:=Zkp hN x.h a x s hx rfl (hc _)
   have hc2:∀n,ClN N n (bel N x.h a s):=by
    intro n o ho y hy hyn z hz;rw[b1,Xl]at ho ⊢
    rcases ho with ho|ho
    ·exact .inl (hc n o ho y hy hyn z hz)
    ·obtain⟨w,w1,w2,w3⟩:=ZV1 hN x.h a x hx rfl o ho
     rw[hy]at w1;obtain rfl:=Option.some.inj w1;exact .inr (w3 z hz)
   obtain⟨i1,i2⟩:=ih _ (fun h hh=>hl h (by simp[hh])) hc2
   refine⟨i1,fun o=>?_⟩
   rw[i2,b1,Xl]
   constructor
   ·rintro ((h|h)|⟨k,hk,h⟩)
    ·exact .inl h
    ·exact .inr ⟨a,by simp,by rw[Qw hx];exact h⟩
    ·exact .inr ⟨k,by simp[hk],h⟩
   ·rintro (h|⟨k,hk,h⟩)
    ·exact .inl (.inl h)
    ·rcases List.mem_cons.1 hk with rfl|hk
     ·rw[Qw hx]at h;exact .inl (.inr h)
     ·exact .inr ⟨k,hk,h⟩
 have:=(key l [] hl (fun n o ho=>by simp at ho)).2 o
 unfold ZJi;rw[this];simp
namespace Tr
mutual
def und(N:ZJ):Tr->List Nat
 | .mk o _ _ _ k=>if o=0 then undO N k else Ql N (Yr N o).h o
def undO(N:ZJ):Option (List Tr)->List Nat
 | none=>[]
 | some l=>undL N l
def undL(N:ZJ):List Tr->List Nat
 | []=>[]
 | t::l=>t.und N++undL N l
end
theorem undO_getD(N:ZJ)(k:Option (List Tr)):undO N k=undL N (k.getD []):=by cases k<;>rfl
end Tr
theorem ZsL{N:ZJ}{t:Tr}(hv:Val N t):∀(out:List Nat) (o:Nat),(∃k∈t.kwT out,o∈Ql N (Yr N k).h k)↔(∃k∈out,o∈Ql N (Yr N k).h k)\/o∈t.und N:=by
 induction hv with
 | @kept a h m k x h0 hx hok hh hm hk =>
  intro out o;rw[Tr.kwT,Tr.kwO_getD,hk,Tr.kwL,Tr.und,if_neg h0]
  by_cases q:a∈out
  ·rw[if_neg (fun w=>w.2 q)]
   constructor
   ·exact .inl
   ·rintro (h|h)
    ·exact h
    ·exact⟨a,q,h⟩
  ·rw[if_pos ⟨h0,q⟩]
   constructor
   ·rintro⟨k,hk,h⟩
    rcases List.mem_append.1 hk with hk|hk
    ·exact .inl ⟨k,hk,h⟩
    ·rw[List.mem_singleton]at hk;subst hk;exact .inr h
   ·rintro (⟨k,hk,h⟩|h)
    ·exact⟨k,by simp[hk],h⟩
    ·exact⟨a,by simp,h⟩
 | @leaf s k h1 h2 hk =>
  intro out o
  rw[Tr.kwT,Tr.kwO_getD,hk,Tr.kwL,Tr.und,if_pos rfl,Tr.undO_getD,hk,Tr.undL,if_neg (by simp)]
  simp
 | @inner h l hh h2 h4 hl hb hv ih =>
  intro out o
  rw[Tr.kwT,Tr.kwO,Tr.und,if_pos rfl,Tr.undO,if_neg (by simp)]
  have key:∀(l:List Tr),(∀t∈l,∀(out:List Nat) (o:Nat),(∃k∈t.kwT out,o∈Ql N (Yr N k).h k)↔(∃k∈out,o∈Ql N (Yr N k).h k)\/o∈t.und N)->∀(out:List Nat),(∃k∈Tr.kwL l out,o∈Ql N (Yr N k).h k)↔(∃k∈out,o∈Ql N (Yr N k).h k)\/o∈Tr.undL N l:=by
   intro l
   induction l with
   | nil=>intro _ out;rw[Tr.kwL,Tr.undL];simp
   | cons a l ihl =>
    intro hl out
    rw[Tr.kwL,Tr.undL,ihl (fun t ht=>hl t (by simp[ht])),hl a (by simp),List.mem_append,or_assoc]
  exact key l ih out
theorem Zqv{N:ZJ}(hN:GoodN N)(hz:∀o x,lk N o=some x->o≠0){t:Tr}(hv:VE N t)(o:Nat):o∈ZJi N (t.kwT [])↔o∈t.und N:=by
 rw[ZoP hN _ (fun h hh=>(ZoM hz hv h hh).2)]
 rcases hv with h|h
 ·obtain⟨a,h',m,s,k⟩:=t
  obtain⟨h1,h2,h3,h4,h5⟩:=h
  simp only[Tr.old,Tr.h,Tr.m,Tr.text,Tr.ks]at *
  subst h1
  rw[Tr.kwT,Tr.kwO_getD,h5,Tr.kwL,Tr.und,if_pos rfl,Tr.undO_getD,h5,Tr.undL,if_neg (by simp)]
  simp
 ·rw[ZsL h];simp
theorem ZoQ{N:ZJ}(hN:GoodN N)(hz:∀o x,lk N o=some x->o≠0){r:Ro}(hr:RtOk N r){t:Tr}(hv:VE N t):Xk N r t=Z1 ((Zh N r).filter fun o=>decide (o∉t.und N)):=by
 unfold Xk Zh
 split
 ·rfl
 ·rename_i h0
  obtain⟨x,x1,x2,x3,x4⟩:∃x,lk N r.at_=some x/\NdOk x/\x.h=r.h/\x.mea=r.m:=by
   rcases hr with rfl|w
   ·exact absurd Y h0
   ·exact w.2
  rw[ZOc,<- x3,ZoO hN x1]
  refine List.filter_congr fun o _=>?_
  rw[decide_eq_decide,Zqv hN hz hv]
def DrOk(M:Nat)(G:List Blk)(dv:AV)(w:List Nat):Prop:=(w=[]/\dv=.nils)\/∃j ver,dv=.ref M (j+4) ver 0 w.length/\w≠[]/\G[j]?=some (.arr 1 ver (w.map QB))
def chL(b6:Blk)(t:Tr)(dv:AV)(w:List Nat)(G:List Blk):List Blk :=
 b6::.arr 7 0 [t.av]::.arr 7 0 [.agg [.int .u64 0,.int .i64 0,.int .i64 0,.int .i64 0,.int .i64 0,.nils,dv]]::.map (YH w)::G
theorem ZiG{L:List Blk}{keep:List Nat}{is:List QAbs.PI}{x i v:Opd}{h:Nat}{es es':List (AV × AV)}(hx:Zd e x=some (.map A.length ix))(hi:Zd e i=some (.int .u64 h))(hv:Zd e v=some w)(hg:L[ix]?=some (.map es))
 (hs:ZZ QF (A.length+1) ⟨A,false,L⟩ w=some (w,⟨A,false,L⟩)) (hp:ZCV (.int .u64 h) w es=some es')
 (hh:Is O is keep k Q e ⟨A,false,L.set ix (.map es')⟩):Is O (⟨none,none,false,.mupd 0 x i v⟩::is) keep k Q e ⟨A,false,L⟩:=by
 have hlt:=(List.getElem?_eq_some_iff.1 hg).1;refine Z3 (od:=none) (v:=.undef) (st':=⟨A,false,L.set ix (.map es')⟩) ?_ hh;simp only[Zg,evalPO,ZF hx,ZF hi,ZF hv,ZG5,YK,if_true,hs,oS,ZJk,St.get_cur,hg,vis,ZDF,hp,St.put,if_false,jB,if_pos hlt,ZA7]
theorem Zdr:∀(l w:List Nat),(l.foldl QY w).length<=w.length+l.length:=by
 intro l
 induction l with
 | nil=>intro w;simp
 | cons a l ih =>
  intro w;rw[List.foldl_cons]
  have h1:(QY w a).length<=w.length+1:=by unfold QY;split<;>simp
  have h2:=ih (QY w a);rw[List.length_cons];omega
theorem ZoR{b6:Blk}{dv:AV}{w dl:List Nat}{G:List Blk}(h0:DrOk A.length G dv w)(hl:w.length+dl.length<100000000){v0 v29 v30 v31:AV}
 (hQ:∀G' dv',DrOk A.length G' dv' (dl.foldl QY w)->Rk (S Tb) k Q .norm [(0,v0),(6,.ptr A.length 0 0 0 0),(8,.ptr A.length 1 0 0 0),(10,.ptr A.length 2 0 0 0),(11,.map A.length 3),(29,v29),(30,v30),(31,v31),(46,.lit (dl.map QB)),(47,.int .i64 dl.length),(48,.int .i64 dl.length),(49,.bool false)] ⟨A,false,chL b6 t dv' (dl.foldl QY w) G'⟩) :
 Ru (S Tb) p_edit_change_19.loop (.blk 2::k) Q [(0,v0),(6,.ptr A.length 0 0 0 0),(8,.ptr A.length 1 0 0 0),(10,.ptr A.length 2 0 0 0),(11,.map A.length 3),(29,v29),(30,v30),(31,v31),(46,.lit (dl.map QB)),(47,.int .i64 dl.length),(48,.int .i64 0)] ⟨A,false,chL b6 t dv w G⟩:=by
 refine Z2 (α:=Nat × AV × List Blk) (fun p=>[(0,v0),(6,.ptr A.length 0 0 0 0),(8,.ptr A.length 1 0 0 0),(10,.ptr A.length 2 0 0 0),(11,.map A.length 3),(29,v29),(30,v30),(31,v31),(46,.lit (dl.map QB)),(47,.int .i64 dl.length),(48,.int .i64 p.1)])
  (fun p=>⟨A,false,chL b6 t p.2.1 ((dl.take p.1).foldl QY w) p.2.2⟩) (fun p=>p.1<=dl.length/\DrOk A.length p.2.2 p.2.1 ((dl.take p.1).foldl QY w)) (fun p=>dl.length-p.1) (0,dv,G) rfl rfl ⟨Nat.zero_le _,h0⟩ ?_
 rintro⟨i,dv1,G1⟩ ⟨hi,hD⟩
 simp only at hi hD ⊢
 have hwl:=Zdr (dl.take i) w;rw[List.length_take,Nat.min_eq_left hi]at hwl
 rcases Nat.lt_or_ge i dl.length with hlt|hge
 ·obtain⟨h,hh⟩:∃x,dl[i]?=some x:=⟨dl[i]'hlt,jE _⟩
  have q:0<=((i:Nat):Int)/\dl[((i:Nat):Int).toNat]?=some h:=⟨by omega,by rw[show ((i:Nat):Int).toNat=i by omega];exact hh⟩
  have hnx:(dl.take (i+1)).foldl QY w=QY ((dl.take i).foldl QY w) h:=by rw[Zb hh,List.foldl_append];rfl
  generalize (dl.take i).foldl QY w=W at *
  have hlk:=ZFk (st:=⟨A,false,chL b6 t dv1 W G1⟩) (lv:=A.length) (mx:=3) (St.get_cur ..) h
  by_cases hm:h∈W
  ·simp only[decide_eq_true hm]at hlk
   rw[show QY W h=W by unfold QY;rw[if_pos hm]]at hnx
   unfold chL at *
   repeat'(first|refine JD (f:=QB) Y Y q (fun _=>rfl) ?_|refine ZE ?_|refine ZD ?_|refine ZG Y ?_|refine ZB Y ?_|refine ZC ?_|refine QH Y Y ?_|(refine cm0 Y Y Y ?_ ?_<;>intro _<;>try omega)|refine ZW Y ?_|refine ZH Y ?_|refine JC Y Y ?_|refine Zm Y Y (by omega) ?_|refine Ya Y Y hlk ?_|refine ZI ?_|refine ZL ?_|refine Zz ?_|refine QD ?_)
   all_goals try first|contradiction|omega
   exact⟨(i+1,dv1,G1),⟨rfl,by simp only[hnx]⟩,⟨by simp only;omega,by simp only[hnx];exact hD⟩,by simp only;omega⟩
  ·simp only[decide_eq_false hm]at hlk
   rw[show QY W h=W++[h] by unfold QY;rw[if_neg hm]]at hnx
   have hpe:=ZOS h W hm
   rcases hD with⟨rfl,rfl⟩|⟨j,ver,rfl,hW,hg⟩
   ·unfold chL at *
    repeat'(first|refine JD (f:=QB) Y Y q (fun _=>rfl) ?_|refine ZE ?_|refine ZD ?_|refine ZG Y ?_|refine ZB Y ?_|refine ZC ?_|refine QH Y Y ?_|(refine cm0 Y Y Y ?_ ?_<;>intro _<;>try omega)|refine ZW Y ?_|refine JC Y Y ?_|refine Ya Y Y hlk ?_|refine ZI ?_|refine ZL ?_)
    all_goals try first|contradiction|omega
    refine ZiG Y Y Y Y Y hpe ?_
    repeat'(first|refine ZD ?_|refine ZG Y ?_|refine ZU Y Y ?_|refine ZP Y Y Y Y ?_|refine ZB Y ?_|refine ZC ?_|refine Qc Y Y Y Y ?_)
    refine ZFh (vx:=.lit [.int .u64 h]) (ys:=[.int .u64 h]) (bytes:=8) Y Y Y (by simp) (by decide) Y ?_
    repeat'(first|refine ZD ?_|refine ZG Y ?_|refine ZU Y Y ?_|refine ZB Y ?_|refine ZC ?_|refine Zm Y Y (by omega) ?_|refine Q0 Y Y Y Y (Ja _ (Nat.lt_succ_self _)) Y ?_|refine Zz ?_|refine QD ?_)
    refine⟨(i+1,.ref A.length (G1.length+4) 0 0 1,G1++[.arr 1 0 [.int .u64 h]]),⟨rfl,?_⟩,⟨by simp only;omega,?_⟩,by simp only;omega⟩
    ·simp only[hnx];rfl
    ·simp only[hnx]
     exact .inr ⟨G1.length,0,rfl,by simp,List.getElem?_concat_length ..⟩
   ·have hj:=(List.getElem?_eq_some_iff.1 hg).1
    have hg2:∀b0 b1 b2 b3:Blk,(b0::b1::b2::b3::G1)[j+4]?=some (.arr 1 ver (W.map QB)):=fun _ _ _ _=>hg
    unfold chL at *
    repeat'(first|refine JD (f:=QB) Y Y q (fun _=>rfl) ?_|refine ZE ?_|refine ZD ?_|refine ZG Y ?_|refine ZB Y ?_|refine ZC ?_|refine QH Y Y ?_|(refine cm0 Y Y Y ?_ ?_<;>intro _<;>try omega)|refine ZW Y ?_|refine JC Y Y ?_|refine Ya Y Y hlk ?_|refine ZI ?_|refine ZL ?_)
    all_goals try first|contradiction|omega
    refine ZiG Y Y Y Y Y hpe ?_
    repeat'(first|refine ZD ?_|refine ZG Y ?_|refine ZU Y Y ?_|refine ZP Y Y Y Y ?_|refine ZB Y ?_|refine ZC ?_|refine Qc Y Y Y Y ?_)
    refine ZCI (es:=W.map QB) (ys:=[.int .u64 h]) Y Y (hg2 _ _ _ _) (by rw[List.length_map]) rfl rfl (by simp;omega) (by decide) ?_
    repeat'(first|refine ZD ?_|refine ZG Y ?_|refine ZU Y Y ?_|refine ZB Y ?_|refine ZC ?_|refine Zm Y Y (by omega) ?_|refine Q0 Y Y Y Y (Ja _ (Nat.lt_succ_self _)) Y ?_|refine Zz ?_|refine QD ?_)
    refine⟨(i+1,.ref A.length (j+4) (ver+1) 0 (W.length+1),G1.set j (.arr 1 (ver+1) (W.map QB++[.int .u64 h]))),⟨rfl,?_⟩,⟨by simp only;omega,?_⟩,by simp only;omega⟩
    ·simp only[hnx];rfl
    ·simp only[hnx]
     refine .inr ⟨j,ver+1,by simp,by simp,?_⟩
     rw[List.getElem?_set_self hj,List.map_append];rfl
 ·obtain rfl:i=dl.length:=by omega
  rw[List.take_length]at hD ⊢
  repeat'(first|refine ZE ?_|refine ZD ?_|refine ZB Y ?_|refine ZC ?_|(refine cm0 Y Y Y ?_ ?_<;>intro _<;>try omega)|refine ZH Y ?_|refine Zv ?_|refine Zf ?_|refine Zc Y ?_|refine Zu ?_)
  all_goals try omega
  exact hQ G1 dv1 hD
def slH(l:List Nat):AV:=if l=[] then .nils else .lit (l.map QB)
def XV(ro:Ro)(fresh:List Nat)(d:AV):AV:=.agg [.int .u64 ro.at_,.int .i64 ro.h,.int .i64 ro.m.b,.int .i64 ro.m.r,.int .i64 ro.m.l,.lit (fresh.map QB),d]
def chZ:AV:=.agg [.int .u64 0,.int .i64 0,.int .i64 0,.int .i64 0,.int .i64 0,.nils,.nils]
theorem ZoS{b lv q:Nat}{fr:List Nat}(st:St)(hl:lv<b):ZZ QF b st (XV ro fr (.ref lv ix ver q n))=some (XV ro fr (.ref lv ix ver q n),st):=by
 show (mapSt (keepN (ZZ 5 b)) _ _).bind ZI8=_
 simp only[mapSt,keepN,Xv,jB,if_false,ZZ,oS,if_pos hl,Y1,ZI8];rfl
theorem ZoT{L:List Blk}{fr d:List Nat}(hg:L[ix]?=some (.arr 1 ver (d.map QB)))(hn:n=d.length):
 ZZ QF A.length ⟨A,false,L⟩ (.tup [XV ro fr (.ref A.length ix ver 0 n),.int .i64 z])=some (.tup [XV ro fr (.lit (d.map QB)),.int .i64 z],⟨A,false,L.set ix .dead⟩):=by
 subst hn
 have h1:=ZIw (n:=3) (A:=A) (s:=0) (m:=d.length) hg (by simp) (es':=d.map QB) (by
  rw[List.drop_zero,List.take_of_length_le (by simp)]
  exact ZRh (k:=.u64) (fun n:Nat=>(n:Int)) 2 0 _ d)
 show (mapSt (ZZ 5 A.length) _ _).bind Zdy=_
 have h2:ZZ 5 A.length ⟨A,false,L⟩ (XV ro fr (.ref A.length ix ver 0 d.length))=some (XV ro fr (.lit (d.map QB)),⟨A,false,L.set ix .dead⟩):=by
  show (mapSt (keepN (ZZ 4 A.length)) _ _).bind ZI8=_
  simp only[mapSt,keepN,Xv,jB,if_false,oS];simp only[ZZ,oS]at h1 ⊢;simp only[h1,oS,Y1,ZI8];rfl
 simp only[mapSt,h2,oS];rfl
theorem ZIi{L L':List Blk}{x:Ex}{c4 c5 j4 w4 v4:Nat}{v:AV}{cs:LV}(hA:A=st.A++[(st.ro,st.L)])(hx:x=.norm\/x=.ret)(h4:Jy e c4=some (.ptr A.length j4 v4 0 0))(hg4:L[j4]?=some (.arr w4 v4 [v]))(hv:v=.agg cs)(hc:cs.length=7)(h5:Jy e c5=some (.int .i64 z))
 (hs:ZZ QF A.length ⟨A,false,L⟩ (.tup [v,.int .i64 z])=some (.tup [w,.int .i64 z],⟨A,false,L'⟩)):JA false [.c c4 true 7,.s c5] (x,e,⟨A,false,L⟩)=some (.tup [w,.int .i64 z],st):=by
 refine ZAr (v:=.tup [v,.int .i64 z]) hA hx ?_ hs Y
 have h1:ZBN ⟨A,false,L⟩ e (.c c4 true 7)=some v:=by
  subst hv;simp only[ZBN,QL h4,loadP,St.get_cur,hg4,vis,ZFq,if_true,List.getElem?_cons_zero,oS,Q3,AV.cells,List.drop_zero]
  rw[List.take_of_length_le (by omega)]
  simp[hc]
  rfl
 simp only[QT,ZDf,h1,oS];simp only[ZBN,QL h5,oS,Option.map_some,ZFr]
def Xm(N:ZJ)(rs:List Ro)(t:Tr):List Nat:=(rs.flatMap fun r=>Xk N r t).foldl QY []
theorem AROk.lv{r:AR}(h:AROk r):∀l,Lv r.nodes l->l.length<=16384:=fun l hl=>h.few hl.1 hl.2
theorem AROk.nz{r:AR}(h:AROk r):∀o x,lk r.nodes o=some x->o≠0:=fun o x hx=>(h.hnd hx).2
theorem Zds{N:ZJ}(hN:GoodN N)(hK:∀l,Lv N l->l.length<=16384){r:Ro}(hr:RtOk N r)(t:Tr):(Xk N r t).length<=16384:=by
 unfold Xk
 split
 ·simp
 ·rename_i h0
  obtain⟨x,x1,x2,x3,x4⟩:∃x,lk N r.at_=some x/\NdOk x/\x.h=r.h/\x.mea=r.m:=by
   rcases hr with rfl|w
   ·exact absurd Y h0
   ·exact w.2
  have:=hK _ (Zji hN r.h r.at_ [] x x1 x3 ⟨by simp,by simp⟩)
  exact Nat.le_trans (List.length_filter_le ..) this
theorem ZoU{N:ZJ}(hN:GoodN N)(hK:∀l,Lv N l->l.length<=16384)(t:Tr):∀ {rs:List Ro},(∀r∈rs,RtOk N r)->(rs.flatMap fun r=>Xk N r t).length<=rs.length*16384:=by
 intro rs
 induction rs with
 | nil=>intro _;simp
 | cons r l ih =>
  intro h
  have h1:=Zds hN hK (h r (by simp)) t
  have h2:=ih (fun z hz=>h z (List.mem_cons_of_mem _ hz))
  rw[List.flatMap_cons,lL,List.length_cons];omega
theorem DrOk.app{M:Nat}{G:List Blk}{dv:AV}{w:List Nat}(h:DrOk M G dv w)(T:List Blk):DrOk M (G++T) dv w:=by
 rcases h with h|⟨j,ver,h1,h2,h3⟩
 ·exact .inl h
 ·exact .inr ⟨j,ver,h1,h2,by rw[jL (List.getElem?_eq_some_iff.1 h3).1];exact h3⟩
theorem ZSP{N:ZJ}(hN:GoodN N)(hK:∀l,Lv N l->l.length<=16384)(hz:∀o x,lk N o=some x->o≠0){b:Nat}(hR:∀L,Rd ⟨A,false,L⟩ la (b+5) N){rs:List Ro}(hrs:∀r∈rs,RtOk N r)(hl:rs.length<=3)(hv:VE N t)(hb:t.bytes<=65536){b6:Blk}
 (hQ:∀G dv,DrOk A.length G dv (Xm N rs t)->Rk (S Tb) k Q .norm [(0,.ptr la (b+5) 0 0 0),(6,.ptr A.length 0 0 0 0),(8,.ptr A.length 1 0 0 0),(10,.ptr A.length 2 0 0 0),(11,.map A.length 3),(29,.lit (rs.map Ro.av)),(30,.int .i64 rs.length),(31,.int .i64 rs.length),(32,.bool false)] ⟨A,false,chL b6 t dv (Xm N rs t) G⟩) :
 Ru (S Tb) p_edit_change_21.loop (.blk 0::k) Q [(0,.ptr la (b+5) 0 0 0),(6,.ptr A.length 0 0 0 0),(8,.ptr A.length 1 0 0 0),(10,.ptr A.length 2 0 0 0),(11,.map A.length 3),(29,.lit (rs.map Ro.av)),(30,.int .i64 rs.length),(31,.int .i64 0)] ⟨A,false,chL b6 t .nils [] []⟩:=by
 refine Z2 (α:=Nat × AV × List Blk) (fun p=>[(0,.ptr la (b+5) 0 0 0),(6,.ptr A.length 0 0 0 0),(8,.ptr A.length 1 0 0 0),(10,.ptr A.length 2 0 0 0),(11,.map A.length 3),(29,.lit (rs.map Ro.av)),(30,.int .i64 rs.length),(31,.int .i64 p.1)])
  (fun p=>⟨A,false,chL b6 t p.2.1 (Xm N (rs.take p.1) t) p.2.2⟩) (fun p=>p.1<=rs.length/\DrOk A.length p.2.2 p.2.1 (Xm N (rs.take p.1) t)) (fun p=>rs.length-p.1) (0,.nils,[]) rfl rfl ⟨Nat.zero_le _,.inl ⟨rfl,rfl⟩⟩ ?_
 rintro⟨i,dv,G⟩ ⟨hi,hD⟩
 simp only at hi hD ⊢
 rcases Nat.lt_or_ge i rs.length with hlt|hge
 ·obtain⟨ro,hro⟩:∃x,rs[i]?=some x:=⟨rs[i]'hlt,jE _⟩
  have q:0<=((i:Nat):Int)/\rs[((i:Nat):Int).toNat]?=some ro:=⟨by omega,by rw[show ((i:Nat):Int).toNat=i by omega];exact hro⟩
  have hrt:=hrs ro (jM hro)
  have hDp:=fun L=>Zdq hN hK hz (hR L) hrt hv hb
  have hdl:=Zds hN hK hrt t
  have hfl:=ZoU hN hK t (rs:=rs.take i) (fun z hz=>hrs z (List.mem_of_mem_take hz))
  rw[List.length_take,Nat.min_eq_left hi]at hfl
  have hwl:=Zdr ((rs.take i).flatMap fun r=>Xk N r t) []
  change (Xm N (rs.take i) t).length<=_ at hwl
  simp only[List.length_nil]at hwl
  have hnx:Xm N (rs.take (i+1)) t=(Xk N ro t).foldl QY (Xm N (rs.take i) t):=by
   unfold Xm;rw[Zb hro,List.flatMap_append,List.foldl_append];simp
  have hin:=fun k Q hQ=>ZoR (A:=A) (b6:=b6) (t:=t) (dl:=Xk N ro t) (hD.app [.arr 5 0 [ro.av]]) (by omega) (v0:=.ptr la (b+5) 0 0 0) (v29:=.lit (rs.map Ro.av)) (v30:=.int .i64 rs.length) (v31:=.int .i64 i) (k:=k) (Q:=Q) hQ
  rw[<- hnx]at hin
  generalize Xk N ro t=dl at *
  generalize Xm N (rs.take i) t=W at *
  have f13:∀b0 b1 b2 b3:Blk,(b0::b1::b2::b3::G++[Blk.arr 5 0 [ro.av]])[(b0::b1::b2::b3::G).length]?=some (.arr 5 0 [ro.av]):=fun _ _ _ _=>List.getElem?_concat_length ..
  obtain⟨ra,rh,rm⟩:=ro
  unfold chL Ro.av at *
  repeat'(first|refine hin _ _ (fun G' dv' hD'=>?_)|refine JD (f:=Ro.av) Y Y q (fun _=>rfl) ?_|refine XH Y ?_|refine ZE ?_|refine ZD ?_|refine ZG Y ?_|refine Zs Y Y ?_|refine ZB Y ?_|refine ZC ?_|refine Qr Y Y Y ?_|refine QH Y Y ?_|(refine cm0 Y Y Y ?_ ?_<;>intro _<;>try omega)|(refine cm0 Y Y Y ?_ ?_<;>intro _<;>try omega)|refine ZW Y ?_|refine ZH Y ?_|refine Zm Y Y (by omega) ?_|refine Zx Y Y Y ?_|refine YA Y Y Y Y Y Y ?_|refine ZA Y Y (by first|rfl|(simp only[lE,lN,lC,ZY,ZS,ZV];first|done|rfl)) (hDp _) ?_|refine ZP Y Y Y (Zk _) ?_|refine ZI ?_|refine ZL ?_|refine Zz ?_|refine QD ?_)
  all_goals try first|contradiction|omega
  exact⟨(i+1,dv',G'),⟨rfl,rfl⟩,⟨by simp only;omega,hD'⟩,by simp only;omega⟩
 ·obtain rfl:i=rs.length:=by omega
  rw[List.take_length]at hD ⊢
  repeat'(first|refine ZE ?_|refine ZD ?_|refine ZB Y ?_|refine ZC ?_|(refine cm0 Y Y Y ?_ ?_<;>intro _<;>try omega)|refine ZH Y ?_|refine Zv ?_|refine Zf ?_|refine Zc Y ?_|refine Zu ?_)
  all_goals try omega
  exact hQ G dv hD
theorem ZiH{b:Nat}{r:AR}(hA:Has st la b r)(ho:AROk r)(hg:GoodN r.nodes){rs:List Ro}(hrs:∀r'∈rs,RtOk r.nodes r')(hl:rs.length<=3)(hv:VE r.nodes t)(hb:t.bytes<=65536){mk:FuncId}
 (hmk:∀A L,A=st.ps->S Tb mk caps ⟨A,false,L⟩=some (.tup [t.av,.int .i64 0],⟨A,false,L⟩)) (hwk:ZV (ZY ([]++[]++caps))=some caps) (hn:r.n<nw t) :
 S Tb ZA3 [.ptr la (b+5) 0 0 0,.func (.func mk) [] caps,.lit (rs.map Ro.av)] st=some (.tup [chZ,.int .i64 6],st):=by
 refine QK Y (fun A hA'=>?_)
 have hM:=fun L=>hmk A L hA'
 have hlp:=fun k Q hQ=>ZSP (A:=A) hg ho.lv ho.nz (fun L=>(hA.r.push hA' (ro:=false) (L:=L)).rd) hrs hl hv hb (b6:=.arr 7 0 [chZ]) (k:=k) (Q:=Q) hQ
 have hWr:=fun L=>ZZ9 (hA.push hA' (ro:=false) (L:=L)) ho hg hv hb hn
 unfold chL at hlp
 unfold chZ at *
 repeat'(first|refine ZA Y Y hwk (hM _) ?_|refine hlp _ _ (fun G dv hD=>?_)|refine XH Y ?_|refine ZE ?_|refine ZD ?_|refine ZG Y ?_|refine Zs Y Y ?_|refine ZB Y ?_|refine ZC ?_|(refine cm0 Y Y Y ?_ ?_<;>intro _<;>try omega)|refine ZH Y ?_|refine Zq Y Y Y ?_|refine Ze Y Y Y ?_|refine Zr Y Y Y Y Y Y ?_|refine ZBD Y ?_|refine ZP Y Y Y (Zk _) ?_|refine Zr Y Y Y (Z7 _ _ _) (QQ _ _) Y ?_|refine ZI ?_|refine ZL ?_)
 all_goals try contradiction
 rcases hD with⟨_,rfl⟩|⟨j,ver,rfl,_,_⟩
 ·repeat'(first|refine ZE ?_|refine ZD ?_|refine ZG Y ?_|refine ZU Y Y ?_|refine Zs Y Y ?_|refine ZB Y ?_|refine ZC ?_|(refine cm0 Y Y Y ?_ ?_<;>intro _<;>try omega)|refine ZW Y ?_|refine Zq Y Y Y ?_|refine Q0 Y Y Y Y Y Y ?_|refine ZA Y Y (by first|rfl|(simp only[lE,lN,lC,ZY,ZS,ZV];first|done|rfl)) (hWr _) ?_|refine ZQ ?_|refine ZO ?_|refine Za ?_)
  all_goals try contradiction
  exact ZIi hA' (.inr Y) Y Y Y Y Y Y
 ·repeat'(first|refine ZE ?_|refine ZD ?_|refine ZG Y ?_|refine ZU Y Y ?_|refine Zs Y Y ?_|refine ZB Y ?_|refine ZC ?_|(refine cm0 Y Y Y ?_ ?_<;>intro _<;>try omega)|refine ZW Y ?_|refine Zq Y Y Y ?_|refine Q0 Y Y Y Y Y Y ?_|refine ZA Y Y (by first|rfl|(simp only[lE,lN,lC,ZY,ZS,ZV];first|done|rfl)) (hWr _) ?_|refine ZQ ?_|refine ZO ?_|refine Za ?_)
  all_goals try contradiction
  exact ZIi hA' (.inr Y) Y Y Y Y Y Y
theorem ZoV{b:Nat}{r:AR}(hA:Has st la b r)(ho:AROk r)(hg:GoodN r.nodes){rs:List Ro}(hrs:∀r'∈rs,RtOk r.nodes r')(hl:rs.length<=3)(hv:VE r.nodes t)(hb:t.bytes<=65536){mk:FuncId}
 (hmk:∀A L,A=st.ps->S Tb mk caps ⟨A,false,L⟩=some (.tup [t.av,.int .i64 0],⟨A,false,L⟩)) (hwk:ZV (ZY ([]++[]++caps))=some caps) (hn:nw t<=r.n) :
 S Tb ZA3 [.ptr la (b+5) 0 0 0,.func (.func mk) [] caps,.lit (rs.map Ro.av)] st=some (.tup [XV (wrV t r).2.1 (wrV t r).2.2 (slH (Xm r.nodes rs t)),.int .i64 0],Qe st la b (wrV t r).1):=by
 refine ZAc Y (fun A hA'=>?_)
 have hM:=fun L=>hmk A L hA'
 have hlp:=fun k Q hQ=>ZSP (A:=A) hg ho.lv ho.nz (fun L=>(hA.r.push hA' (ro:=false) (L:=L)).rd) hrs hl hv hb (b6:=.arr 7 0 [chZ]) (k:=k) (Q:=Q) hQ
 have hle:=hA.le
 have hWr:=fun L=>ZVw (hA.push hA' (ro:=false) (L:=L)) ho hg hv hb hn
 simp only[ZAF hA' hle]at hWr
 have hAl:A.length=((Qe st la b (wrV t r).1).ps).length:=by rw[hA'];simp[ZFf]
 generalize (wrV t r).2.1=ro at *
 generalize (wrV t r).2.2=fr at *
 obtain⟨A2,hA2⟩:∃A2,A2=(Qe st la b (wrV t r).1).ps:=⟨_,rfl⟩;rw[<- hA2]at hWr hAl;unfold chL at hlp
 unfold chZ at *
 repeat'(first|refine ZA Y Y hwk (hM _) ?_|refine hlp _ _ (fun G dv hD=>?_)|refine XH Y ?_|refine ZE ?_|refine ZD ?_|refine ZG Y ?_|refine Zs Y Y ?_|refine ZB Y ?_|refine ZC ?_|(refine cm0 Y Y Y ?_ ?_<;>intro _<;>try omega)|refine ZH Y ?_|refine Zq Y Y Y ?_|refine Ze Y Y Y ?_|refine Zr Y Y Y Y Y Y ?_|refine ZBD Y ?_|refine ZP Y Y Y (Zk _) ?_|refine Zr Y Y Y (Z7 _ _ _) (QQ _ _) Y ?_|refine ZI ?_|refine ZL ?_)
 all_goals try contradiction
 obtain⟨ra,rh,rm⟩:=ro;unfold Ro.av at hWr
 rcases hD with⟨e,rfl⟩|⟨j,ver,rfl,hne,hgd⟩
 ·rw[e]
  repeat'(first|refine ZG Y ?_|refine ZU Y Y ?_|refine Zs Y Y ?_|refine ZA Y Y (by first|rfl|(simp only[lE,lN,lC,ZY,ZS,ZV];first|done|rfl)) (hWr _) ?_)
  rw[hAl]
  repeat'(first|refine ZE ?_|refine ZD ?_|refine ZG Y ?_|refine ZU Y Y ?_|refine ZP Y Y Y Y ?_|refine ZB Y ?_|refine ZC ?_|(refine cm0 Y Y Y ?_ ?_<;>intro _<;>try omega)|refine ZH Y ?_|refine Q0 Y Y Y Y Y Y ?_|refine ZI ?_|refine ZQ ?_|refine ZO ?_)
  all_goals try contradiction
  exact ZIi (w:=XV ⟨ra,rh,rm⟩ fr .nils) hA2 (.inr Y) Y Y Y Y Y Y
 ·have hg3:∀b0 b1 b2 b3:Blk,(b0::b1::b2::b3::G)[j+4]?=some (.arr 1 ver ((Xm r.nodes rs t).map QB)):=fun _ _ _ _=>hgd
  unfold slH;rw[if_neg hne]
  generalize Xm r.nodes rs t=dd at *
  repeat'(first|refine ZG Y ?_|refine ZU Y Y ?_|refine Zs Y Y ?_|refine ZA Y Y (by first|rfl|(simp only[lE,lN,lC,ZY,ZS,ZV];first|done|rfl)) (hWr _) ?_)
  rw[hAl]
  repeat'(first|refine Q0 Y Y Y Y (ZoS (ro:=⟨ra,rh,rm⟩) (fr:=fr) _ (Nat.lt_succ_self _)) Y ?_|refine ZE ?_|refine ZD ?_|refine ZG Y ?_|refine ZU Y Y ?_|refine ZP Y Y Y Y ?_|refine ZB Y ?_|refine ZC ?_|(refine cm0 Y Y Y ?_ ?_<;>intro _<;>try omega)|refine ZH Y ?_|refine Q0 Y Y Y Y Y Y ?_|refine ZI ?_|refine ZQ ?_|refine ZO ?_)
  all_goals try contradiction
  exact ZIi (v:=XV ⟨ra,rh,rm⟩ fr (.ref A2.length (j+4) ver 0 dd.length)) (w:=XV ⟨ra,rh,rm⟩ fr (.lit (dd.map QB))) hA2 (.inr Y) Y Y Y Y Y (ZoT (hg3 _ _ _ _) Y)
noncomputable def edV(N:ZJ)(ro:Ro)(a n:Int)(s:B8):Tr:=(ZBv N (YF ro) a n s).own
structure EdOk(N:ZJ)(ro:Ro)(s0:B8)(a n:Int)(s:B8):Prop where
 rt:Rt N ro s0
 a0:0<=a
 n0:0<=n
 le:a+n<=s0.length
 b1:s0.length<=60000
 b2:s.length<=2000
theorem EdOk.ok{N:ZJ}(hN:GoodN N){n:Int}(h:EdOk N ro s0 a n s):
 VE N (edV N ro a n s)/\(edV N ro a n s).bytes=s0.length-n+s.length/\(edV N ro a n s).txt N=s0.take a.toNat++s++s0.drop (a+n).toNat:=by
 obtain⟨hk,htx⟩:=h.rt.keep;have hb:=(h.rt.b hN).1;have h1:=h.a0;have h2:=h.n0;have h3:=h.le;have h4:=h.b1;have h5:=h.b2
 have:=ZOI hN (s:=s) hk h1 h2 (by omega) (by omega) (by omega)
 refine⟨ZIh this.ve,?_,?_⟩
 ·show (Tr.own _).bytes=_;rw[J6,this.bytes,hb]
 ·show (Tr.own _).txt N=_;rw[Zqn,this.txt,htx]
theorem ZoW{b:Nat}{N:ZJ}(hN:GoodN N)(hR:Rd st la (b+5) N){n:Int}(h:EdOk N ro s0 a n s):
 S Tb ZHD [.ptr la (b+5) 0 0 0,ro.av,.int .i64 a,.int .i64 n,.str s] st=some (.tup [(edV N ro a n s).av,.int .i64 0],st):=by
 refine QK Y (fun A hA=>?_)
 have hRA:=fun L=>hR.push hA (ro:=false) (L:=L)
 have hKp:=fun L=>ZOU (hRA L) h.rt.rt
 obtain⟨hk,htx⟩:=h.rt.keep;have hb:=(h.rt.b hN).1;have h1:=h.a0;have h2:=h.n0;have h3:=h.le;have h4:=h.b1;have h5:=h.b2
 have hRp:=fun L=>ZdY hN (hRA L) hk (a:=a) (n:=n) (s:=s) h1 h2 (by omega) (by omega) (by omega)
 unfold edV
 generalize (ZBv N (YF ro) a n s).own=t at *
 generalize YF ro=kt at *
 obtain⟨ra,rh,rm⟩:=ro
 unfold Ro.av at *
 repeat'(first|refine ZA Y Y Zkl (hRp _) ?_|refine ZE ?_|refine ZD ?_|refine ZG Y ?_|refine ZP Y Y Y Y ?_|refine Zs Y Y ?_|refine ZB Y ?_|refine ZC ?_|(refine cm0 Y Y Y ?_ ?_<;>intro _<;>try omega)|refine ZH Y ?_|refine Ze Y Y Y ?_|refine ZA Y Y (by first|rfl|(simp only[lE,lN,lC,ZY,ZS,ZV];first|done|rfl)) (hKp _) ?_|refine ZP Y Y Y (Zk _) ?_|refine Zr Y Y Y (Z7 _ _ _) (QQ _ _) Y ?_|refine ZI ?_|refine ZQ ?_|refine ZO ?_)
 all_goals try first|contradiction|omega
 exact ZCG hA (.inr Y) Y Y Y Y
theorem ZiI{b lv:Nat}{N:ZJ}(hN:GoodN N)(hR:Rd st la (b+5) N){n:Int}(h:EdOk N ro s0 a n s)
 (g0:st.get lv 0=some (.arr 1 0 [.ptr la (b+5) 0 0 0])) (g1:st.get lv 1=some (.arr 5 0 [ro.av])) (g2:st.get lv 2=some (.arr 1 0 [.int .i64 a])) (g3:st.get lv 3=some (.arr 1 0 [.int .i64 n])) (g4:st.get lv 4=some (.arr 1 0 [.str s])) :
 S Tb YQ [.ptr lv 0 0 0 0,.ptr lv 1 0 0 0,.ptr lv 2 0 0 0,.ptr lv 3 0 0 0,.ptr lv 4 0 0 0] st=some (.tup [(edV N ro a n s).av,.int .i64 0],st):=by
 refine QK Y (fun A hA=>?_)
 have hPl:=fun L=>ZoW hN (hR.push hA (ro:=false) (L:=L)) h
 have k0:=fun L=>ZX hA (ro:=false) (L:=L) g0
 have k1:=fun L=>ZX hA (ro:=false) (L:=L) g1
 have k2:=fun L=>ZX hA (ro:=false) (L:=L) g2
 have k3:=fun L=>ZX hA (ro:=false) (L:=L) g3
 have k4:=fun L=>ZX hA (ro:=false) (L:=L) g4
 generalize edV N ro a n s=t at *
 repeat'(first|refine Z9 Y (k0 _) Y Y ?_|refine Z9 Y (k1 _) Y (ZOa _) ?_|refine Z9 Y (k2 _) Y Y ?_|refine Z9 Y (k3 _) Y Y ?_|refine Z9 Y (k4 _) Y Y ?_|refine ZE ?_|refine ZD ?_|refine ZG Y ?_|refine Zs Y Y ?_|refine ZB Y ?_|refine ZC ?_|refine Ze Y Y Y ?_|refine ZA Y Y (by first|rfl|(simp only[lE,lN,lC,ZY,ZS,ZV];first|done|rfl)) (hPl _) ?_|refine Zr Y Y Y (Z7 _ _ _) (QQ _ _) Y ?_|refine ZQ ?_|refine ZO ?_)
 all_goals try contradiction
 exact ZCG hA (.inr Y) Y Y Y Y
theorem Zjj{b:Nat}{r:AR}(hA:Has st la b r)(ho:AROk r)(hg:GoodN r.nodes){n:Int}(h:EdOk r.nodes ro s0 a n s)(hn:nw (edV r.nodes ro a n s)<=r.n):
 S Tb ZAO [.ptr la (b+5) 0 0 0,ro.av,.int .i64 a,.int .i64 n,.str s] st=some (.tup [XV (wrV (edV r.nodes ro a n s) r).2.1 (wrV (edV r.nodes ro a n s) r).2.2 (slH (Xm r.nodes [ro] (edV r.nodes ro a n s))),.int .i64 0],Qe st la b (wrV (edV r.nodes ro a n s) r).1):=by
 refine ZAc Y (fun A hA'=>?_)
 have hle:=hA.le;obtain⟨hv,hvb,_⟩:=h.ok hg;have h1:=h.n0;have h4:=h.b1;have h5:=h.b2
 have hCh:=ZoV (st:=⟨A,false,[.arr 1 0 [.ptr la (b+5) 0 0 0],.arr 5 0 [ro.av],.arr 1 0 [.int .i64 a],.arr 1 0 [.int .i64 n],.arr 1 0 [.str s],.arr 7 0 [chZ]]⟩) (hA.push hA') ho hg (rs:=[ro]) (fun z hz=>by rw[List.mem_singleton]at hz;rw[hz];exact h.rt.rt) (by simp) hv (by omega) (mk:=YQ) (caps:=[.ptr A.length 0 0 0 0,.ptr A.length 1 0 0 0,.ptr A.length 2 0 0 0,.ptr A.length 3 0 0 0,.ptr A.length 4 0 0 0])
  (fun A2 L h2=>ZiI hg ((hA.push hA').r.rd.push h2) h (ZX h2 (St.get_cur ..)) (ZX h2 (St.get_cur ..)) (ZX h2 (St.get_cur ..)) (ZX h2 (St.get_cur ..)) (ZX h2 (St.get_cur ..))) rfl hn
 rw[ZAF hA' hle]at hCh
 have hAl:A.length=((Qe st la b (wrV (edV r.nodes ro a n s) r).1).ps).length:=by rw[hA'];simp[ZFf]
 generalize (wrV (edV r.nodes ro a n s) r).2.1=r2 at *
 generalize (wrV (edV r.nodes ro a n s) r).2.2=fr at *
 generalize Xm r.nodes [ro] (edV r.nodes ro a n s)=dd at *
 obtain⟨A2,hA2⟩:∃A2,A2=(Qe st la b (wrV (edV r.nodes ro a n s) r).1).ps:=⟨_,rfl⟩;rw[<- hA2]at hCh hAl;simp only[jC,List.map_nil]at hCh;obtain⟨x1,x2,x3⟩:=r2;unfold chZ at hCh;unfold Ro.av at hCh ⊢
 by_cases hd:dd=[]
 ·subst hd
  rw[show slH []=.nils from rfl]at hCh ⊢
  unfold XV at hCh
  repeat'(first|refine ZE ?_|refine ZD ?_|refine ZG Y ?_|refine ZP Y Y Y Y ?_|refine Zs Y Y ?_|refine ZB Y ?_|refine ZC ?_|refine Xb Y Y ?_|refine Ze Y Y Y ?_|refine Qc Y Y Y Y ?_|refine ZA Y Y Y (hCh) ?_)
  rw[hAl]
  repeat'(first|refine ZG Y ?_|refine ZB Y ?_|refine ZC ?_|refine Zr Y Y Y Y Y Y ?_|refine ZQ ?_|refine ZO ?_)
  all_goals try contradiction
  exact ZIi (w:=XV ⟨x1,x2,x3⟩ fr .nils) hA2 (.inr Y) Y Y Y Y Y Y
 ·rw[show slH dd=.lit (dd.map QB) from if_neg hd]at hCh ⊢
  unfold XV at hCh
  repeat'(first|refine ZE ?_|refine ZD ?_|refine ZG Y ?_|refine ZP Y Y Y Y ?_|refine Zs Y Y ?_|refine ZB Y ?_|refine ZC ?_|refine Xb Y Y ?_|refine Ze Y Y Y ?_|refine Qc Y Y Y Y ?_|refine ZA Y Y Y (hCh) ?_)
  rw[hAl]
  repeat'(first|refine ZG Y ?_|refine ZB Y ?_|refine ZC ?_|refine Zr Y Y Y Y Y Y ?_|refine ZQ ?_|refine ZO ?_)
  all_goals try contradiction
  exact ZIi (w:=XV ⟨x1,x2,x3⟩ fr (.lit (dd.map QB))) hA2 (.inr Y) Y Y Y Y Y Y
theorem Zcn{b:Nat}{r:AR}(hA:Has st la b r)(ho:AROk r)(hg:GoodN r.nodes){n:Int}(h:EdOk r.nodes ro s0 a n s)(hn:r.n<nw (edV r.nodes ro a n s)):
 S Tb ZAO [.ptr la (b+5) 0 0 0,ro.av,.int .i64 a,.int .i64 n,.str s] st=some (.tup [chZ,.int .i64 6],st):=by
 refine QK Y (fun A hA'=>?_)
 have hle:=hA.le;obtain⟨hv,hvb,_⟩:=h.ok hg;have h1:=h.n0;have h4:=h.b1;have h5:=h.b2
 have hCh:=ZiH (st:=⟨A,false,[.arr 1 0 [.ptr la (b+5) 0 0 0],.arr 5 0 [ro.av],.arr 1 0 [.int .i64 a],.arr 1 0 [.int .i64 n],.arr 1 0 [.str s],.arr 7 0 [chZ]]⟩) (hA.push hA') ho hg (rs:=[ro]) (fun z hz=>by rw[List.mem_singleton]at hz;rw[hz];exact h.rt.rt) (by simp) hv (by omega) (mk:=YQ) (caps:=[.ptr A.length 0 0 0 0,.ptr A.length 1 0 0 0,.ptr A.length 2 0 0 0,.ptr A.length 3 0 0 0,.ptr A.length 4 0 0 0])
  (fun A2 L h2=>ZiI hg ((hA.push hA').r.rd.push h2) h (ZX h2 (St.get_cur ..)) (ZX h2 (St.get_cur ..)) (ZX h2 (St.get_cur ..)) (ZX h2 (St.get_cur ..)) (ZX h2 (St.get_cur ..))) rfl hn
 simp only[jC,List.map_nil]at hCh;unfold chZ at hCh ⊢;unfold Ro.av at hCh ⊢
 repeat'(first|refine ZE ?_|refine ZD ?_|refine ZG Y ?_|refine ZP Y Y Y Y ?_|refine Zs Y Y ?_|refine ZB Y ?_|refine ZC ?_|refine Xb Y Y ?_|refine Ze Y Y Y ?_|refine Zr Y Y Y Y Y Y ?_|refine Qc Y Y Y Y ?_|refine ZA Y Y Y (hCh) ?_|refine ZQ ?_|refine ZO ?_)
 all_goals try contradiction
 exact ZIi (w:=chZ) hA' (.inr Y) Y Y Y Y Y Y
theorem ZaJ(w:List Nat)(hl:w.length<9223372036854775808)(st:St):S Tb YB [.lit (w.map QB),.lit (w.map QB)] st=some (.bool true,st):=by
 refine QK Y (fun A hA=>?_)
 repeat'(first|refine XH Y ?_|refine ZE ?_|refine ZD ?_|refine ZG Y ?_|refine ZB Y ?_|refine ZC ?_|(refine cm0 Y Y Y ?_ ?_<;>intro _<;>try omega)|refine ZH Y ?_|refine ZI ?_|refine ZL ?_)
 all_goals try contradiction
 refine Z2 (α:=Nat) (fun i=>[(0,.lit (w.map QB)),(1,.lit (w.map QB)),(5,.int .i64 i)]) (fun i=>⟨A,false,[]⟩) (fun i=>i<=w.length) (fun i=>w.length-i) 0 Y Y (Nat.zero_le _) ?_
 intro i hi;replace hi:i<=w.length:=hi
 rcases Nat.lt_or_ge i w.length with hlt|hge
 ·obtain⟨k,hk⟩:∃k,w[i]?=some k:=⟨w[i]'hlt,jE _⟩
  have q:0<=((i:Nat):Int)/\w[((i:Nat):Int).toNat]?=some k:=⟨by omega,by rw[show ((i:Nat):Int).toNat=i by omega];exact hk⟩
  repeat'(first|refine XH Y ?_|refine JD (f:=QB) Y Y q (fun _=>rfl) ?_|refine ZE ?_|refine ZD ?_|refine ZG Y ?_|refine ZB Y ?_|refine ZC ?_|refine QH Y Y ?_|(refine cm0 Y Y Y ?_ ?_<;>intro _<;>try omega)|refine ZW Y ?_|refine ZH Y ?_|refine Zm Y Y (by omega) ?_|refine ZI ?_|refine ZL ?_|refine Zz ?_|refine QD ?_)
  all_goals try first|contradiction|omega
  all_goals first|exact absurd Y ‹_›|exact⟨i+1,⟨rfl,rfl⟩,by omega,by omega⟩
 ·obtain rfl:i=w.length:=by omega
  repeat'(first|refine XH Y ?_|refine ZE ?_|refine ZD ?_|refine ZG Y ?_|refine ZB Y ?_|refine ZC ?_|(refine cm0 Y Y Y ?_ ?_<;>intro _<;>try omega)|refine ZH Y ?_|refine ZQ ?_|refine Zv ?_|refine ZO ?_|refine Zf ?_|refine Zc Y ?_|refine Zu ?_)
  all_goals try omega
  refine Zi hA (by simp) Y Y Y Y ?_
  rfl
structure Op where
 at_:Int
 num:Int
 text:B8
def Zsu(l:List Op):Prop:=∃s∈l,300<s.text.length
noncomputable instance (l:List Op):Decidable (Zsu l):=Classical.propDecidable _
def exU:B8:=[97,98,99,100,101,102,103,104,105,106,107,108,109,110,111,112,113]
theorem ZEV:QX exU=.mk 0 1 .zero [] (some [Jo [97,98,99,100,101,102,103,104,105],Jo [106,107,108,109,110,111,112,113]]):=by
 rfl
noncomputable def exUR:AR:=(wrV (QX exU) (JH 8 4)).1
theorem ZoX:(wrV (QX exU) (JH 8 4)).2.1=⟨65538,1,⟨17,17,0⟩⟩:=by
 rw[ZEV];rfl
theorem ZoY:nw (QX exU)=3:=by rw[ZEV];rfl
theorem Zsv:exUR.n=5:=by unfold exUR;rw[ZEV];rfl
theorem ZsM:nw (edV exUR.nodes ⟨65538,1,⟨17,17,0⟩⟩ 9 0 [120,121,122])<=5:=by
 unfold exUR;rw[ZEV]
 decide +kernel
def exURo:Ro:=⟨65538,1,⟨17,17,0⟩⟩
theorem exU_ok:AROk exUR/\GoodN exUR.nodes/\Rt exUR.nodes exURo exU:=by
 obtain⟨b1,b2,b3⟩:=J5 ZOJ (s:=exU) (by decide)
 have ho:=ZaC 8 4 (by omega) (by omega)
 obtain⟨w1,w2⟩:=ZaB (r:=JH 8 4) (XU [] [] [] _) ho ZOJ b1 (by rw[b3];decide) (by rw[ZoY];decide)
 rw[show (JH 8 4).nodes=[] from rfl,b2,ZoX]at w2
 exact⟨w1.ok,w1.good,w2⟩
theorem exU_edOk:EdOk exUR.nodes exURo exU 9 0 [120,121,122]:=⟨exU_ok.2.2,by decide,by decide,by decide,by decide,by decide⟩
theorem Zkq:nw (edV exUR.nodes exURo 9 0 [120,121,122])<=exUR.n:=by rw[Zsv];exact ZsM
def ZDb(texts:List B8)(ys:List Ed):Prop:=ZSN texts\/ZaF ys\/12<ys.length
noncomputable instance (texts:List B8) (ys:List Ed):Decidable (ZDb texts ys):=Classical.propDecidable _
theorem ZoZ(texts:List B8)(ys:List Ed)(hb:texts.length<9223372036854775808)(hbs:∀s∈texts,s.length<9223372036854775808)(hy:ys.length<9223372036854775808)(hys:∀y∈ys,y.text.length<9223372036854775808)(st:St):
 S Tb Y7 [.lit (texts.map .str),.lit (ys.map Ed.av)] st=some (.bool (decide (ZDb texts ys)),st):=by
 refine QK Y (fun A hA=>?_)
 have hLg:=fun st=>ZsC texts hb hbs st
 have hMn:=fun st=>Zn9 ys hy hys st
 by_cases hl:ZSN texts
 ·rw[decide_eq_true (show ZDb texts ys from .inl hl)]
  simp only[decide_eq_true hl]at hLg
  repeat'(first|refine ZE ?_|refine ZD ?_|refine ZG Y ?_|refine JW Y Y ?_|refine Zo Y Y Y Y ?_|refine ZB Y ?_|refine ZC ?_|refine ZA Y Y Y (hLg _) ?_|refine ZQ ?_|refine ZO ?_)
  all_goals try contradiction
  all_goals refine Zi hA (by simp) Y Y Y Y ?_
  all_goals rfl
 simp only[decide_eq_false hl]at hLg
 by_cases hm:ZaF ys
 ·rw[decide_eq_true (show ZDb texts ys from .inr (.inl hm))]
  simp only[decide_eq_true hm]at hMn
  repeat'(first|refine ZE ?_|refine ZD ?_|refine ZG Y ?_|refine QE Y ?_|refine JW Y Y ?_|refine Zo Y Y Y Y ?_|refine ZB Y ?_|refine ZC ?_|refine ZA Y Y Y (hLg _) ?_|refine ZA Y Y Y (hMn _) ?_|refine ZQ ?_|refine ZO ?_)
  all_goals try contradiction
  all_goals refine Zi hA (by simp) Y Y Y Y ?_
  all_goals rfl
 simp only[decide_eq_false hm]at hMn
 by_cases h12:12<ys.length
 ·rw[decide_eq_true (show ZDb texts ys from .inr (.inr h12))]
  repeat'(first|refine XH Y ?_|refine ZE ?_|refine ZD ?_|refine ZG Y ?_|refine QE Y ?_|refine Zo Y Y Y Y ?_|refine ZB Y ?_|refine ZC ?_|(refine cm0 Y Y Y ?_ ?_<;>intro _<;>try omega)|refine ZA Y Y Y (hLg _) ?_|refine ZA Y Y Y (hMn _) ?_|refine ZQ ?_|refine ZO ?_)
  all_goals try first|contradiction|omega
  all_goals refine Zi hA (by simp) Y Y Y Y ?_
  all_goals rfl
 ·rw[decide_eq_false (show ¬ ZDb texts ys from fun q=>q.elim hl fun q=>q.elim hm h12)]
  repeat'(first|refine XH Y ?_|refine ZE ?_|refine ZD ?_|refine ZG Y ?_|refine QE Y ?_|refine Zo Y Y Y Y ?_|refine ZB Y ?_|refine ZC ?_|(refine cm0 Y Y Y ?_ ?_<;>intro _<;>try omega)|refine ZA Y Y Y (hLg _) ?_|refine ZA Y Y Y (hMn _) ?_|refine ZQ ?_|refine ZO ?_)
  all_goals try first|contradiction|omega
  all_goals refine Zi hA (by simp) Y Y Y Y ?_
  all_goals rfl
theorem Zjk(x n:Int)(h0:0<=n)(h1:n<4611686018427387904)(st:St):S Tb Jv [.int .i64 x,.int .i64 n] st=some (.int .i64 (JK x n),st):=by
 refine QK Y (fun A hA=>?_)
 have hP:=fun st=>ZgC x n h0 h1 st
 repeat'(first|refine ZE ?_|refine ZD ?_|refine ZG Y ?_|refine ZB Y ?_|refine ZC ?_|refine ZA Y Y Y (hP _) ?_|refine ZQ ?_|refine ZO ?_)
 refine Zi hA (by simp) Y Y Y Y ?_
 rfl
theorem ZOd{N M:ZJ}(hN:GoodN N)(hs:Ext N M):∀n o x,lk N o=some x->x.h=n->Ql M n o=Ql N n o:=by
 intro n
 induction n with
 | zero=>intro o x hx hh;rfl
 | succ n ih =>
  intro o x hx hh;obtain⟨hok,hk⟩:=hN o x hx;rw[ZOT hx hok hh,ZOT (hs _ _ hx) hok hh]
  have key:∀l:List Kid,(∀k∈l,k∈x.ks)->(l.flatMap fun k=>Ql M n k.at_)=l.flatMap fun k=>Ql N n k.at_:=by
   intro l
   induction l with
   | nil=>intro _;rfl
   | cons k l ih2 =>
    intro h
    obtain⟨_,y,y1,y2,_⟩:=hk k (h k (by simp))
    rw[List.flatMap_cons,List.flatMap_cons,ih k.at_ y y1 (by omega),ih2 (fun q hq=>h q (by simp[hq]))]
  rw[show n+1-1=n by omega,key x.ks fun _ h=>h]
theorem Zjl{N M:ZJ}(hN:GoodN N)(hE:Ext N M){r:Ro}(h:RtOk N r):Zh M r=Zh N r:=by
 unfold Zh
 split
 ·rfl
 ·rename_i q
  rcases h with e|⟨_,x,h1,_,h2,_⟩
  ·rw[e]at q;exact absurd Y q
  ·exact ZOd hN hE _ _ x h1 h2
def InP(N:ZJ)(P:Nat->Prop)(t:Tr):Prop:=∀o∈t.und N,P o
def InL(N:ZJ)(P:Nat->Prop)(l:List Tr):Prop:=∀t∈l,InP N P t
theorem undL_mem{N:ZJ}{o:Nat}:∀ {l:List Tr},o∈Tr.undL N l↔∃t∈l,o∈t.und N
 | []=>by simp[Tr.undL]
 | t::l=>by rw[Tr.undL,List.mem_append,undL_mem (l:=l)];simp
section
variable {N:ZJ}{P:Nat->Prop}
theorem Zdt(h:IsEmpty t):t.und N=[]:=by
 obtain⟨o,h',m,s,k⟩:=t;obtain⟨h1,h2,h3,h4,h5⟩:=h
 simp only[Tr.old,Tr.h,Tr.m,Tr.text,Tr.ks]at *
 subst h1;rw[Tr.und,if_pos rfl,Tr.undO_getD,h5,Tr.undL]
theorem Zoa(h:IsEmpty t):InP N P t:=fun o ho=>by rw[Zdt h]at ho;simp at ho
theorem ZOe:InP N P .zero:=Zoa zero_empty
theorem ZV2(s:B8):InP N P (Jo s):=fun o ho=>by
 rw[Jo,Tr.und,if_pos rfl,Tr.undO]at ho;simp at ho
theorem ZEW(hN:GoodN N)(hv:Val N t)(hg:1<=t.h)(h:InP N P t):InL N P (childs N t):=by
 cases hv with
 | kept h0 hx hok hh hm hk =>
  rename_i o h' m k x
  intro u hu q hq;simp only[childs,if_neg h0,hx]at hu;obtain⟨kd,hkd,rfl⟩:=List.mem_map.1 hu;obtain⟨k0,y,y1,y2,y3⟩:=(hN o x hx).2 kd hkd;rw[Yw,Tr.und,if_neg k0,Qw y1]at hq;refine h q ?_;rw[Tr.und,if_neg h0,Qw hx,ZOT hx hok rfl,List.mem_cons]
  exact .inr (List.mem_flatMap.2 ⟨kd,hkd,by rw[show x.h-1=y.h by omega];exact hq⟩)
 | leaf h1 h2 hk=>simp[Tr.h]at hg
 | inner hh h2 h4 hl hb hv =>
  rename_i h' l
  intro u hu q hq;refine h q ?_;rw[Tr.und,if_pos rfl,Tr.undO];exact undL_mem.2 ⟨u,hu,hq⟩
theorem ZDC{l:List Tr}(h:InL N P l):InP N P (grp l):=by
 match l,h with
 | [],_=>exact ZOe
 | [t],h=>exact h t (by simp)
 | t::u::r,h =>
  intro q hq
  rw[ZDZ (by simp),Tr.und,if_pos rfl,Tr.undO]at hq
  obtain⟨w,hw,hq⟩:=undL_mem.1 hq;exact h w hw q hq
theorem InL.app{l m:List Tr}(h:InL N P l)(g:InL N P m):InL N P (l++m):=fun t ht=>by
 rcases List.mem_append.1 ht with q|q
 ·exact h t q
 ·exact g t q
theorem InL.tk{l:List Tr}(h:InL N P l)(n:Nat):InL N P (l.take n):=fun t ht=>h t (List.mem_of_mem_take ht)
theorem InL.dr{l:List Tr}(h:InL N P l)(n:Nat):InL N P (l.drop n):=fun t ht=>h t (List.mem_of_mem_drop ht)
theorem Zkr{l:List Tr}(h:InL N P l):InL N P (foldM l):=by
 unfold foldM
 split
 ·intro t ht;rw[List.mem_singleton]at ht;rw[ht];exact ZDC h
 ·intro t ht
  simp only[List.mem_cons,List.not_mem_nil,or_false]at ht
  rcases ht with rfl|rfl
  ·exact ZDC (h.tk _)
  ·exact ZDC (h.dr _)
theorem Zob{x y:Tr}(hx:InP N P x)(hy:InP N P y):InL N P [x,y]:=fun t ht=>by
 simp only[List.mem_cons,List.not_mem_nil,or_false]at ht
 rcases ht with rfl|rfl<;>assumption
theorem ZaK(hN:GoodN N):∀n x y,Val N x->Val N y->n=x.h+y.h->InP N P x->InP N P y->InL N P (mergeF N n x y)
 | 0,x,y,hx,hy,hn,ix,iy=>by
  rw[mergeF];unfold leavesM
  split
  ·exact Zob ix iy
  ·intro t ht
   obtain⟨s,_,rfl⟩:=List.mem_map.1 ht;exact ZV2 s
 | n+1,x,y,hx,hy,hn,ix,iy=>by
  rw[mergeF]
  split
  ·have cx:=ZEW hN hx (by omega) ix
   have cy:=ZEW hN hy (by omega) iy
   split
   ·intro t ht;rw[List.mem_singleton]at ht;rw[ht];exact ZDC (cx.app cy)
   ·exact Zob ix iy
  ·split
   ·have cx:=ZEW hN hx (by omega) ix
    obtain⟨c1,c2,c3,c4⟩:=JF hN hx (by omega)
    have hum:(childs N x)[(childs N x).length-1]?.getD Tr.zero∈childs N x:=by rw[jE (by omega)];simp
    obtain⟨u1,u2,u3⟩:=c1 _ hum
    exact Zkr ((cx.tk _).app (ZaK hN n _ y u1 hy (by omega) (cx _ hum) iy))
   ·have cy:=ZEW hN hy (by omega) iy
    obtain⟨c1,c2,c3,c4⟩:=JF hN hy (by omega)
    have hum:(childs N y)[0]?.getD Tr.zero∈childs N y:=by rw[jE (by omega)];simp
    obtain⟨u1,u2,u3⟩:=c1 _ hum
    exact Zkr ((ZaK hN n x _ hx u1 (by omega) ix (cy _ hum)).app (cy.dr _))
theorem ZV3(hN:GoodN N){x y:Tr}(hx:VE N x)(hy:VE N y)(ix:InP N P x)(iy:InP N P y):InP N P (concM N x y):=by
 unfold concM
 split
 ·exact iy
 ·rename_i h
  split
  ·exact ix
  ·rename_i h2
   exact ZDC (ZaK hN _ x y (hx.val h) (hy.val h2) Y ix iy)
theorem Zoc(hN:GoodN N):∀n t a,VE N t->t.h=n->0<=a->a<=t.bytes->t.bytes<=65536->InP N P t->InP N P (cutF N n t a).1/\InP N P (cutF N n t a).2:=by
 intro n
 induction n with
 | zero =>
  intro t a ht hh h0 h1 hb it;rw[cutF]
  split
  ·exact⟨ZOe,it⟩
  ·split
   ·exact⟨it,ZOe⟩
   ·exact⟨ZV2 _,ZV2 _⟩
 | succ n ih =>
  intro t a ht hh h0 h1 hb it;rw[cutF]
  split
  ·exact⟨ZOe,it⟩
  ·split
   ·exact⟨it,ZOe⟩
   ·rename_i q1 q2
    have vt:=ht.val (by omega)
    have h16:=vt.h16
    have ic:=ZEW hN vt (by omega) it
    obtain⟨c1,c2,c3,c4⟩:=JF hN vt (by omega)
    generalize childs N t=l at *
    obtain⟨s1,s2,s3,s4⟩:=ZOE l a (by omega) (fun u hu=>by have:=(c1 u hu).1.pos.2;omega) h0 (by omega)
    generalize hk:(Qt l a).1=k at *
    generalize hb2:(Qt l a).2=b at *
    have hl:∀u∈l,Val N u/\u.h=n/\Big u:=fun u hu=>⟨(c1 u hu).1,by have:=(c1 u hu).2.1;omega,(c1 u hu).2.2⟩
    split
    ·exact⟨ZDC (ic.tk _),ZDC (ic.dr _)⟩
    ·obtain⟨u,hu⟩:∃u,l[k]?=some u:=⟨l[k],by simp[s1]⟩
     have hum:=jM hu;have hbu:=s4 u hu;have iu:=ic u hum;rw[hu];simp only[Option.getD_some];obtain⟨u1,u2,u3⟩:=hl u hum
     have hub:u.bytes<=Tr.bytesL l:=by
      have hsum:Tr.bytesL l=Tr.bytesL (l.take k)+Tr.bytesL (l.drop k):=by rw[<- Tr.bytesL_append,List.take_append_drop]
      have hd:l.drop k=u::l.drop (k+1):=by
       obtain⟨w1,w2⟩:=List.getElem?_eq_some_iff.1 hu;rw[List.drop_eq_getElem_cons w1,w2]
      rw[hd,Tr.bytesL]at hsum
      have n1:=Tr.bytesL_nonneg (l:=l.take k) (fun w hw=>(hl w (List.mem_of_mem_take hw)).1.pos.1.nonneg)
      have n2:=Tr.bytesL_nonneg (l:=l.drop (k+1)) (fun w hw=>(hl w (List.mem_of_mem_drop hw)).1.pos.1.nonneg)
      omega
     have hc:=Xu hN n u b (.inr u1) u2 s2 (by omega) (by omega)
     obtain⟨i1,i2⟩:=ih u b (.inr u1) u2 s2 (by omega) (by omega) iu
     have g1:=(ZFc (l:=l.take k) (h:=n) (by rw[List.length_take];omega) (by omega) (fun w hw=>hl w (List.mem_of_mem_take hw))).1
     have g2:=(ZFc (l:=l.drop (k+1)) (h:=n) (by rw[List.length_drop];omega) (by omega) (fun w hw=>hl w (List.mem_of_mem_drop hw))).1
     exact⟨ZV3 hN g1 hc.l (ZDC (ic.tk _)) i1,ZV3 hN hc.r g2 i2 (ZDC (ic.dr _))⟩
theorem Zks:∀(n:Nat) (row:List Tr),InL N P row->InL N P (XE n row)
 | 0,row,h=>by rw[XE];exact h
 | n+1,row,h=>by
  rw[XE]
  split
  ·exact h
  ·refine Zks n _ (fun t ht=>?_)
   unfold ZBJ at ht;obtain⟨i,hi,rfl⟩:=List.mem_map.1 ht
   exact ZDC (fun u hu=>h u (List.mem_of_mem_drop (List.mem_of_mem_take hu)))
theorem Zod(s:B8):InP N P (QX s):=by
 unfold QX
 refine ZDC (Zks _ _ (fun t ht=>?_))
 obtain⟨c,_,rfl⟩:=List.mem_map.1 ht;exact ZV2 c
theorem Zqw(hN:GoodN N)(ht:VE N t){n:Int}(h0:0<=a)(h1:0<=n)(h2:a+n<=t.bytes)(hb:t.bytes<=65536)(hs:t.bytes-n+s.length<=65536)(it:InP N P t):InP N P (ZBv N t a n s):=by
 unfold ZBv
 split
 ·exact it
 ·have c1:=Xu hN t.h t a ht rfl h0 (by omega) hb
  obtain⟨i1,i2⟩:=Zoc hN t.h t a ht rfl h0 (by omega) hb it
  generalize cutF N t.h t a=q at *
  obtain⟨l,m⟩:=q
  simp only at *
  have hm:=c1.rb;have hl:=c1.lb
  simp only at hm hl
  have c2:=Xu hN m.h m n c1.r rfl h1 (by omega) (by omega)
  obtain⟨i3,i4⟩:=Zoc hN m.h m n c1.r rfl h1 (by omega) (by omega) i2
  generalize cutF N m.h m n=q at *
  obtain⟨d,r⟩:=q
  simp only at *
  obtain⟨b1,b2,b3⟩:=J5 hN (s:=s) (by omega)
  have k1:=Ym hN c1.l b1 (by rw[b3];simp only;omega)
  exact ZV3 hN k1.ve c2.r (ZV3 hN c1.l b1 i1 (Zod s)) i4
theorem Zqx(t:Tr):t.own.und N=t.und N:=by
 induction t using Tr.ind with
 | step o h m s k ih =>
  rw[Tr.own,Tr.und,Tr.und]
  split
  ·rw[Tr.undO_getD,Tr.undO_getD,ZAy]
   generalize k.getD []=l at ih
   induction l with
   | nil=>rfl
   | cons a l ih2=>rw[jC,Tr.undL,Tr.undL,ih a (by simp),ih2 (fun t ht=>ih t (by simp[ht]))]
  ·rfl
end
theorem Zoe{N:ZJ}{r:Ro}(h:RtOk N r):(YF r).und N=Zh N r:=by
 unfold YF Zh
 split
 ·rfl
 ·rename_i h0
  obtain⟨x,x1,x2,x3,x4⟩:∃x,lk N r.at_=some x/\NdOk x/\x.h=r.h/\x.mea=r.m:=by
   rcases h with rfl|w
   ·exact absurd Y h0
   ·exact w.2
  rw[Tr.keep,Tr.und,if_neg h0,Qw x1,x3]
theorem ZsN{N:ZJ}(hN:GoodN N){n:Int}(h:EdOk N ro s0 a n s):∀o∈(edV N ro a n s).und N,o∈Zh N ro:=by
 obtain⟨hk,htx⟩:=h.rt.keep;have hb:=(h.rt.b hN).1;have h1:=h.a0;have h2:=h.n0;have h3:=h.le;have h4:=h.b1;have h5:=h.b2;unfold edV;rw[Zqx]
 exact Zqw (P:=fun o=>o∈Zh N ro) hN hk h1 h2 (by omega) (by omega) (by omega) (fun o ho=>by rw[Zoe h.rt.rt]at ho;exact ho)
def WU(N:ZJ)(t:Tr):Prop:=∀r:AR,AROk r->GoodN r.nodes->Ext N r.nodes->t.cnt<=r.n->∀o,o∈Ql (t.wr r).1.nodes t.h (t.wr r).2.1.at_↔o∈(t.wr r).2.2\/o∈t.und N
theorem ZsO{N:ZJ}(hv:Val N t)(hb:t.bytes<=65536){r:AR}(ho:AROk r)(hg:GoodN r.nodes)(hE:Ext N r.nodes)(hc:t.cnt<=r.n):
 WrB r t.cnt (t.wr r).1 (t.wr r).2.2/\∃y,lk (t.wr r).1.nodes (t.wr r).2.1.at_=some y/\y.h=t.h:=by
 have hv2:=hv.ext hE
 obtain⟨h1,h2⟩:=Zn5 (XU [] [] [] r) ho hg (.inr hv2) hb (by rw[ZFj hv2];exact hc)
 rw[ZVv hv2,ZFj hv2]at *
 refine⟨h1,?_⟩
 rcases h2 with⟨he,_⟩|⟨_,h2⟩
 ·exact absurd he hv.not_empty
 ·obtain⟨y,y1,y2,y3,y4⟩:=h2.live
  exact⟨y,y1,y3⟩
structure WLs(N:ZJ)(l:List Tr)(h:Nat)(r:AR):Prop where
 ok:AROk (Tr.wrL l r).1
 good:GoodN (Tr.wrL l r).1.nodes
 ext:Ext r.nodes (Tr.wrL l r).1.nodes
 n:(Tr.wrL l r).1.n+Tr.cntL l=r.n
 live:∀k∈(Tr.wrL l r).2.1,∃y,lk (Tr.wrL l r).1.nodes k.at_=some y/\y.h=h
 und:∀o,(∃k∈(Tr.wrL l r).2.1,o∈Ql (Tr.wrL l r).1.nodes h k.at_)↔o∈(Tr.wrL l r).2.2\/o∈Tr.undL N l
theorem Zqy{N:ZJ}{h:Nat}:∀(l:List Tr),(∀u∈l,Val N u/\u.h=h/\u.bytes<=65536/\WU N u)->∀r,AROk r->GoodN r.nodes->Ext N r.nodes->Tr.cntL l<=r.n->WLs N l h r:=by
 intro l
 induction l with
 | nil =>
  intro _ r ho hg hE hc
  exact⟨ho,hg,.refl _,by simp[Tr.wrL,Tr.cntL],fun k hk=>by simp[Tr.wrL]at hk,fun o=>by simp[Tr.wrL,Tr.undL]⟩
 | cons t l ih =>
  intro hl r ho hg hE hc;rw[Tr.cntL]at hc
  obtain⟨v1,v2,v3,v4⟩:=hl t (by simp)
  obtain⟨b,y,y1,y2⟩:=ZsO v1 v3 ho hg hE (by omega)
  have hn:=b.n
  have w:=ih (fun u hu=>hl u (by simp[hu])) (t.wr r).1 b.ok b.good (hE.trans b.ext) (by omega)
  have hu:=v4 r ho hg hE (by omega)
  have hka:((t.wr r).2.1.kid).at_=(t.wr r).2.1.at_:=rfl
  have he:Ql (Tr.wrL l (t.wr r).1).1.nodes h (t.wr r).2.1.at_=Ql (t.wr r).1.nodes t.h (t.wr r).2.1.at_:=by
   rw[<- v2];exact ZOd b.good w.ext t.h _ y y1 y2
  refine⟨w.ok,w.good,b.ext.trans w.ext,?_,?_,?_⟩
  ·show (Tr.wrL l (t.wr r).1).1.n+_=_
   rw[Tr.cntL];have:=w.n;omega
  ·intro k hk
   rcases List.mem_cons.1 hk with rfl|q
   ·exact⟨y,w.ext _ _ y1,by rw[y2,v2]⟩
   ·exact w.live k q
  ·intro o
   have hw:=w.und o;have ho2:=hu o
   show (∃k∈(t.wr r).2.1.kid::(Tr.wrL l (t.wr r).1).2.1,o∈Ql (Tr.wrL l (t.wr r).1).1.nodes h k.at_)↔o∈(t.wr r).2.2++(Tr.wrL l (t.wr r).1).2.2\/_
   rw[Tr.undL,List.mem_append,List.mem_append]
   constructor
   ·rintro⟨k,hk,q⟩
    rcases List.mem_cons.1 hk with rfl|hk
    ·rw[hka,he]at q
     rcases ho2.1 q with q|q
     ·exact .inl (.inl q)
     ·exact .inr (.inl q)
    ·rcases hw.1 ⟨k,hk,q⟩ with q|q
     ·exact .inl (.inr q)
     ·exact .inr (.inr q)
   ·rintro ((q|q)|(q|q))
    ·exact⟨_,List.mem_cons_self ..,by rw[hka,he];exact ho2.2 (.inl q)⟩
    ·obtain⟨k,hk,q⟩:=hw.2 (.inl q);exact⟨k,List.mem_cons_of_mem _ hk,q⟩
    ·exact⟨_,List.mem_cons_self ..,by rw[hka,he];exact ho2.2 (.inr q)⟩
    ·obtain⟨k,hk,q⟩:=hw.2 (.inr q);exact⟨k,List.mem_cons_of_mem _ hk,q⟩
theorem ZsP{N:ZJ}(hN:GoodN N)(hv:Val N t):t.bytes<=65536->WU N t:=by
 induction hv with
 | @kept o h m k x h0 hx hok hh hm hk =>
  intro _ r ho hg hE hc q
  have e:(Tr.mk o h m [] k).wr r=(r,⟨o,h,m⟩,[]):=by rw[Tr.wr,if_pos h0]
  rw[e]
  show q∈Ql r.nodes h o↔_
  rw[ZOd hN hE h o x hx hh,Tr.und,if_neg h0,Qw hx,hh]
  simp
 | @leaf s k h1 h2 hk =>
  intro _ r ho hg hE hc q
  have e:(Tr.mk 0 0 .zero s k).wr r=(r.add ⟨0,s,none⟩,⟨r.next,0,YV s⟩,[r.next]):=by rw[Tr.wr];simp
  rw[e]
  show q∈Ql (r.add _).nodes 0 r.next↔_
  rw[Ql,Tr.und,if_pos rfl,Tr.undO_getD,hk,Tr.undL]
  simp
 | @inner h l hh h2 h4 hl hb hv ih =>
  intro hb2 r ho hg hE hc q
  have eb:(Tr.mk 0 (h+1) .zero [] (some l)).bytes=Tr.bytesL l:=by rw[Tr.bytes,Tr.bytesO];simp[Mea.zero]
  have hbs:∀u∈l,u.bytes<=65536:=fun u hu=>by
   obtain⟨i,hi,rfl⟩:=List.getElem_of_mem hu
   have h3:Tr.bytesL l=Tr.bytesL (l.take i)+(l[i].bytes+Tr.bytesL (l.drop (i+1))):=by
    conv=>lhs;rw[<- List.take_append_drop (i+1) l,Zb (jE hi),Tr.bytesL_append,Tr.bytesL_append]
    simp[Tr.bytesL];omega
   have n1:=Tr.bytesL_nonneg (l:=l.take i) (fun t ht=>by have:=(hv t (List.mem_of_mem_take ht)).pos.2;omega)
   have n2:=Tr.bytesL_nonneg (l:=l.drop (i+1)) (fun t ht=>by have:=(hv t (List.mem_of_mem_drop ht)).pos.2;omega)
   omega
  have ec:(Tr.mk 0 (h+1) .zero [] (some l)).cnt=Tr.cntL l+1:=by rw[Tr.cnt,Tr.cntO];simp;omega
  rw[ec]at hc
  have w:=Zqy (N:=N) (h:=h) l (fun u hu=>⟨hv u hu,hl u hu,hbs u hu,ih u hu (hbs u hu)⟩) r ho hg hE (by omega)
  have e:(Tr.mk 0 (h+1) .zero [] (some l)).wr r=((Tr.wrL l r).1.add ⟨h+1,[],some (Tr.wrL l r).2.1⟩,⟨(Tr.wrL l r).1.next,h+1,QI ((Tr.wrL l r).2.1.map Kid.m)⟩,(Tr.wrL l r).2.2++[(Tr.wrL l r).1.next]):=by
   rw[Tr.wr];simp[Tr.wrO]
  rw[e];have hwn:=w.n;have hwg:=w.good;have hwl:=w.live;have hwo:=w.ok;have hwu:=w.und q
  show q∈Ql ((Tr.wrL l r).1.add _).nodes (h+1) (Tr.wrL l r).1.next↔q∈(Tr.wrL l r).2.2++[(Tr.wrL l r).1.next]\/_
  generalize (Tr.wrL l r).2.1=ks at *
  generalize (Tr.wrL l r).2.2=hs at *
  generalize (Tr.wrL l r).1=r1 at *
  have hn:0<r1.n:=by omega
  have hlk:lk (r1.add ⟨h+1,[],some ks⟩).nodes r1.next=some (⟨h+1,[],some ks⟩:Nd).copy:=by rw[ZFg hwo hn,if_pos rfl]
  have hkc:(⟨h+1,[],some ks⟩:Nd).copy.ks=ks:=rfl;rw[Ql,Qw hlk,hkc,Tr.und,if_pos rfl,Tr.undO,List.mem_cons,List.mem_append,List.mem_singleton,List.mem_flatMap]
  have hp:∀k∈ks,Ql (r1.add ⟨h+1,[],some ks⟩).nodes h k.at_=Ql r1.nodes h k.at_:=fun k hk=>by
   obtain⟨y,y1,y2⟩:=hwl k hk;exact ZOd hwg (ZOQ hwo hn _) h k.at_ y y1 y2
  constructor
  ·rintro (z|⟨k,hk,z⟩)
   ·exact .inl (.inr z)
   ·rw[hp k hk]at z
    rcases hwu.1 ⟨k,hk,z⟩ with z|z
    ·exact .inl (.inl z)
    ·exact .inr z
  ·rintro ((z|z)|z)
   ·obtain⟨k,hk,z⟩:=hwu.2 (.inl z);exact .inr ⟨k,hk,by rw[hp k hk];exact z⟩
   ·exact .inl z
   ·obtain⟨k,hk,z⟩:=hwu.2 (.inr z);exact .inr ⟨k,hk,by rw[hp k hk];exact z⟩
theorem Zqz{r:AR}(ho:AROk r)(hg:GoodN r.nodes)(hv:VE r.nodes t)(hb:t.bytes<=65536)(hn:nw t<=r.n)(o:Nat):
 o∈Zh (wrV t r).1.nodes (wrV t r).2.1↔o∈(wrV t r).2.2\/o∈t.und r.nodes:=by
 rcases hv with hv|hv
 ·rw[ZRk hv,Zdt hv]
  simp[Zh,Ro.zero]
 ·obtain⟨h1,h2⟩:=Zn5 (XU [] [] [] r) ho hg (.inr hv) hb hn
  rw[ZFj hv]at hn;have hu:=ZsP hg hv hb r ho hg (.refl _) hn o
  rcases h2 with⟨he,_⟩|⟨_,h2⟩
  ·exact absurd he hv.not_empty
  ·obtain⟨y,y1,y2,y3,y4⟩:=h2.live
   have h0:=(h1.ok.hnd y1).2
   rw[ZVv hv]at *
   unfold Zh;rw[if_neg h0,h2.rh];exact hu
def ZJj(N:ZJ)(rs:List Ro):List Nat:=rs.flatMap fun r=>Z1 (Zh N r)
inductive Adds:AR->List Nat->AR->Prop
 | nil (r:AR):Adds r [] r
 | cons {r r':AR} {hs:List Nat} (x:Nd) (h:Adds (r.add x) hs r'):Adds r (r.next::hs) r'
theorem Adds.app{r r1 r2:AR}{hs gs:List Nat}(h:Adds r hs r1)(g:Adds r1 gs r2):Adds r (hs++gs) r2:=by
 induction h with
 | nil=>exact g
 | cons x h ih=>exact .cons x (ih g)
mutual
theorem Zkt:∀(t:Tr) (r:AR),Adds r (t.wr r).2.2 (t.wr r).1
 | .mk o h m s k,r=>by
  rw[Tr.wr]
  split
  ·exact .nil r
  ·split
   ·exact .cons _ (.nil _)
   ·exact (Zof k r).app (.cons _ (.nil _))
theorem Zof:∀(k:Option (List Tr)) (r:AR),Adds r (Tr.wrO k r).2.2 (Tr.wrO k r).1
 | none,r=>by rw[Tr.wrO];exact .nil r
 | some l,r=>by rw[Tr.wrO];exact ZiK l r
theorem ZiK:∀(l:List Tr) (r:AR),Adds r (Tr.wrL l r).2.2 (Tr.wrL l r).1
 | [],r=>by rw[Tr.wrL];exact .nil r
 | t::l,r=>by rw[Tr.wrL];exact (Zkt t r).app (ZiK l _)
end
theorem Zog(t:Tr)(r:AR):Adds r (wrV t r).2.2 (wrV t r).1:=by
 unfold wrV
 split
 ·exact .nil r
 ·exact Zkt t r
def hOf(r:AR)(s:Nat):Nat:=((r.gens[s]?).getD 0).toNat*65536+s
def ZIj(r:AR):List Nat:=(ZIc r.states 1).map (hOf r)
theorem Zjm{l:List Int}{s:Nat}(h:s∈ZIc l z):s<l.length/\l[s]?=some z:=by
 unfold ZIc Yy at h;rw[List.mem_filter,List.mem_range]at h
 exact⟨h.1,by simpa using h.2⟩
theorem Zl1{r r':AR}{hs:List Nat}(h:Adds r hs r'):AROk r->hs.length<=r.n->∀o∈hs,r.states[o % 65536]?=some 0:=by
 induction h with
 | nil=>intro _ _ o ho;simp at ho
 | @cons r r' hs x h ih =>
  intro ho hl o hm;rw[List.length_cons]at hl
  have hn:0<r.n:=by omega
  obtain⟨t1,t2,t3,t4,t5,t6⟩:=ho.top hn
  rcases List.mem_cons.1 hm with rfl|hm
  ·have e1:r.next % 65536=r.slot:=by unfold AR.next;have:=ho.n16;omega
   rw[e1];exact t3
  ·have hi:=ih (ho.add hn x) (by show hs.length<=r.n-1;omega) o hm
   replace hi:(r.states.set r.slot 1)[o % 65536]?=some 0:=hi
   by_cases q:r.slot=o % 65536
   ·rw[<- q,List.getElem?_set_self t2]at hi;simp at hi
   ·rwa [jS q]at hi
theorem Zq0{r:AR}(ho:AROk r)(h:r.states[o % 65536]?=some 0):o∉ZIj r:=by
 intro hm;unfold ZIj at hm;obtain⟨s,hs,e⟩:=List.mem_map.1 hm;obtain⟨m1,m2⟩:=Zjm hs;have h16:=ho.n16
 have:o % 65536=s:=by rw[<- e];unfold hOf;omega
 rw[this,m2]at h
 simp at h
theorem ZgD{r:AR}(ho:AROk r):(ZIj r).length<=16384:=by
 have:=ZSI r.states 1 r.states.length
 have:=ho.n16
 unfold ZIj ZIc;rw[List.length_map];omega
theorem ZI6{N:ZJ}(hN:GoodN N)(hx:RtOk N x):∀o∈Zh N x,∃y,lk N o=some y:=by
 intro o ho;unfold Zh at ho
 split at ho
 ·simp at ho
 ·rename_i h0
  obtain⟨y,x1,x2,x3,x4⟩:∃y,lk N x.at_=some y/\NdOk y/\y.h=x.h/\y.mea=x.m:=by
   rcases hx with rfl|w
   ·exact absurd Y h0
   ·exact w.2
  obtain⟨w,w1,_⟩:=ZV1 hN x.h x.at_ y x1 x3 o ho;exact⟨w,w1⟩
theorem onceV_mem{v:List Nat}{x:Nat}:x∈Z1 v↔x∈v:=(Jg v).2.1 x
theorem Zoh{N:ZJ}{rs:List Ro}:o∈ZJj N rs↔∃x∈rs,o∈Zh N x:=by
 unfold ZJj;rw[List.mem_flatMap]
 constructor
 ·rintro⟨x,hx,h⟩;exact⟨x,hx,onceV_mem.1 h⟩
 ·rintro⟨x,hx,h⟩;exact⟨x,hx,onceV_mem.2 h⟩
theorem Zoi{N:ZJ}(hN:GoodN N):∀l:List Ro,(∀r∈l,RtOk N r)->(ZJj N l).length<=100000000*l.length:=by
 intro l
 induction l with
 | nil=>intro _;simp[ZJj]
 | cons a l ih =>
  intro h
  have h1:=YD hN (h a (by simp))
  have h2:=(Jg (Zh N a)).2.2
  have h3:=ih (fun r hr=>h r (by simp[hr]))
  unfold ZJj at h3 ⊢;rw[List.flatMap_cons,lL,List.length_cons];omega
structure Zr1(N:ZJ)(rs:List Ro)(ro:Ro)(fr dd lv:List Nat):Prop where
 rsk:∀r∈rs,RtOk N r
 rok:RtOk N ro
 hd:dd=Z1 ((ZJj N rs).filter fun o=>decide (o∉Z1 (Zh N ro)))
 fn:fr.Nodup
 ln:fr.length<1000000000/\lv.length<1000000000/\(ZJj N rs).length<1000000000/\(Z1 (Zh N ro)).length<1000000000
 frk:∀h∈fr,h∉lv/\h∈Z1 (Zh N ro)
 now:∀h∈Z1 (Zh N ro),(h∈ZJj N rs↔h∉fr)/\h∉dd
theorem Zoj{r:AR}(ho:AROk r)(hg:GoodN r.nodes)(hv:VE r.nodes t)(hb:t.bytes<=65536)(hn:nw t<=r.n){rs:List Ro}(hl:rs.length<=3)(hrs:∀x∈rs,RtOk r.nodes x)(hin:∀o∈t.und r.nodes,∃x∈rs,o∈Zh r.nodes x):
 Zr1 (wrV t r).1.nodes rs (wrV t r).2.1 (wrV t r).2.2 (Xm r.nodes rs t) (ZIj r):=by
 obtain⟨w1,w2⟩:=ZaB (XU [] [] [] r) ho hg hv hb hn;have hu:=Zqz ho hg hv hb hn
 have ha:=Zl1 (Zog t r) ho (by rw[w1.len];exact hn)
 have hne:∀x∈rs,Zh (wrV t r).1.nodes x=Zh r.nodes x:=fun x hx=>Zjl hg w1.ext (hrs x hx)
 have hnw:∀x∈rs,∀o∈Zh r.nodes x,o∉(wrV t r).2.2:=fun x hx o hm q=>by
  obtain⟨y,hy⟩:=ZI6 hg (hrs x hx) o hm
  have:=w1.new o q
  rw[hy]at this;simp at this
 have hro:=w2.rt
 have hwas:ZJj (wrV t r).1.nodes rs=ZJj r.nodes rs:=by
  unfold ZJj;rw[List.flatMap_def,List.flatMap_def]
  congr 1
  exact List.map_congr_left fun x hx=>by rw[hne x hx]
 have hdd:Xm r.nodes rs t=Z1 ((ZJj (wrV t r).1.nodes rs).filter fun o=>decide (o∉Z1 (Zh (wrV t r).1.nodes (wrV t r).2.1))):=by
  rw[hwas]
  show Z1 (rs.flatMap fun x=>Xk r.nodes x t)=_
  congr 1
  unfold ZJj
  have key:∀l:List Ro,(∀x∈l,x∈rs)->(l.flatMap fun x=>Xk r.nodes x t)=(l.flatMap fun x=>Z1 (Zh r.nodes x)).filter fun o=>decide (o∉Z1 (Zh (wrV t r).1.nodes (wrV t r).2.1)):=by
   intro l
   induction l with
   | nil=>intro _;rfl
   | cons x l ih =>
    intro h
    rw[List.flatMap_cons,List.flatMap_cons,List.filter_append,ih (fun y hy=>h y (by simp[hy])),ZoQ hg ho.nz (hrs x (h x (by simp))) hv,ZOc]
    congr 1
    refine List.filter_congr fun o hm=>?_
    rw[decide_eq_decide,onceV_mem,hu o]
    have:=hnw x (h x (by simp)) o (onceV_mem.1 hm)
    simp[this]
  exact key rs fun _ h=>h
 have hsl:=Zoi w1.good rs (fun x hx=>(hrs x hx).ext w1.ext)
 have hnl:=YD w1.good hro;have hol:=(Jg (Zh (wrV t r).1.nodes (wrV t r).2.1)).2.2;have hhl:=ZgD ho;have hfl:=w1.len;have hrn:=ho.nn;have hr16:=ho.n16
 refine⟨fun x hx=>(hrs x hx).ext w1.ext,hro,hdd,w1.nodup,⟨by omega,by omega,by omega,by omega⟩,fun h hh=>⟨Zq0 ho (ha h hh),onceV_mem.2 ((hu h).2 (.inl hh))⟩,fun h hh=>?_⟩
 have hm:=(hu h).1 (onceV_mem.1 hh)
 have hw:h∈ZJj (wrV t r).1.nodes rs↔h∉(wrV t r).2.2:=by
  rw[hwas,Zoh]
  constructor
  ·rintro⟨x,hx,q⟩;exact hnw x hx h q
  ·intro q
   rcases hm with z|z
   ·exact absurd z q
   ·exact hin h z
 refine⟨hw,fun q=>?_⟩
 rw[hdd,onceV_mem,List.mem_filter]at q;simp only[decide_eq_true_eq]at q;exact q.2 hh
def ZFm(N:ZJ)(x y:Ro):List (Nat × Int):=YE (YE [] (Z1 (Zh N x))) (Z1 (Zh N y))
theorem XI(N:ZJ)(x y:Ro):((ZFm N x y).map Prod.fst).Nodup:=(ZCU _ _ (ZCU _ [] (by simp)).1).1
theorem cnt2_mem{N:ZJ}{y:Ro}:o∈(ZFm N x y).map Prod.fst↔o∈Z1 (Zh N x)\/o∈Z1 (Zh N y):=by
 unfold ZFm
 rw[(ZCU _ _ (ZCU _ [] (by simp)).1).2,(ZCU _ [] (by simp)).2]
 simp
theorem ZIk{o:Nat}:∀ {l:List Nat},l.Nodup->l.count o=if o∈l then 1 else 0
 | [],_=>by simp
 | a::l,h=>by
  rw[List.nodup_cons]at h;rw[List.count_cons,ZIk h.2]
  by_cases e:a=o
  ·subst e;simp[h.1]
  ·have:¬ o=a:=fun q=>e q.symm
   simp[e,this]
theorem Yh(v:List Nat):(Z1 v).Nodup:=(Jg v).1
theorem ZaL(N:ZJ)(x y:Ro)(o:Nat):Xj o (ZFm N x y)=(if o∈Z1 (Zh N x) then 1 else 0)+(if o∈Z1 (Zh N y) then 1 else 0):=by
 unfold ZFm;rw[ZCT,ZCT,ZIk (Yh _),ZIk (Yh _)]
 show (0:Int)+_+_=_
 split<;>split<;>rfl
theorem ZEX{m:List Nat}(h1:l.Nodup)(h2:m.Nodup)(h:∀x,x∈l↔x∈m):l.Perm m:=(List.perm_ext_iff_of_nodup h1 h2).2 h
theorem Zq1(hl:∀x∈l,x<18446744073709551616):(l.map toH).map Fin.val=l:=by
 rw[List.map_map]
 conv=>rhs;rw[<- List.map_id l]
 refine List.map_congr_left fun x hx=>?_
 show x % 18446744073709551616=x
 have:=hl x hx
 omega
theorem Zl2(hl:∀x∈l,x<18446744073709551616):(Zje l).Perm l:=by
 have h:=(List.mergeSort_perm (l.map toH) leH).map Fin.val;rw[Zq1 hl]at h;exact h
theorem Zl3{m:List Nat}(h:l.Perm m):Zje l=Zje m:=by unfold Zje;rw[Zdm (h.map toH)]
theorem ZiL(l:List Nat):(Zje l).Pairwise fun a b=>a % 65536<=b % 65536:=by
 unfold Zje;rw[List.pairwise_map]
 refine (ZIg _).imp fun {a b} h=>?_
 rw[ZVy]at h;omega
def Yi(N:ZJ)(x y:Ro):List Nat:=Zje (ZLa (fun n=>decide (n=2)) (ZFm N x y))
theorem ZRn{N:ZJ}{y:Ro}:o∈ZLa (fun n=>decide (n=2)) (ZFm N x y)↔o∈Z1 (Zh N x)/\o∈Z1 (Zh N y):=by
 rw[Zh6 (XI N x y),cnt2_mem,ZaL,decide_eq_true_eq]
 by_cases h1:o∈Z1 (Zh N x)<;>by_cases h2:o∈Z1 (Zh N y)<;>simp[h1,h2]
theorem Zl4{N:ZJ}{y:Ro}:o∈ZLa (fun n=>decide (n=1)) (ZFm N x y)↔(o∈Z1 (Zh N x)/\o∉Z1 (Zh N y))\/(o∈Z1 (Zh N y)/\o∉Z1 (Zh N x)):=by
 rw[Zh6 (XI N x y),cnt2_mem,ZaL,decide_eq_true_eq]
 by_cases h1:o∈Z1 (Zh N x)<;>by_cases h2:o∈Z1 (Zh N y)<;>simp[h1,h2]
theorem ZSQ(N:ZJ)(x y:Ro):Yi N x y=Yi N y x :=
 Zl3 (ZEX (ZDA (XI N x y)) (ZDA (XI N y x)) fun o=>by rw[ZRn,ZRn];exact And.comm)
def Zok(N:ZJ):Prop:=∀o x,lk N o=some x->o<18446744073709551616
theorem AROk.h64{r:AR}(h:AROk r):Zok r.nodes:=fun o x hx=>by
 obtain⟨s,g,e,h1,h2,h3⟩:=h.key o x hx;obtain⟨g',k1,k2,k3⟩:=h.gen s h1;rw[h3]at k1
 have:=Option.some.inj k1
 have:=h.most
 have:=h.n16
 omega
theorem ZaM{N:ZJ}(hN:GoodN N)(h6:Zok N)(hx:RtOk N x)(ho:o∈Z1 (Zh N x)):o<18446744073709551616:=by
 obtain⟨y,hy⟩:=ZI6 hN hx o (onceV_mem.1 ho);exact h6 o y hy
theorem Zku{N:ZJ}(hN:GoodN N)(h6:Zok N){y:Ro}(hx:RtOk N x)(hy:RtOk N y):∀q∈ZFm N x y,q.1<18446744073709551616:=fun q hq=>by
 rcases cnt2_mem.1 (List.mem_map.2 ⟨q,hq,rfl⟩) with h|h
 ·exact ZaM hN h6 hx h
 ·exact ZaM hN h6 hy h
theorem ZiM{N:ZJ}{p:Int->Bool}{c:List (Nat × Int)}(h:∀q∈c,q.1<18446744073709551616):∀o∈ZLa p c,o<18446744073709551616:=fun o ho=>by
 unfold ZLa at ho;obtain⟨q,hq,rfl⟩:=List.mem_map.1 ho;exact h q (List.mem_filter.1 hq).1
theorem ZSR{N:ZJ}(hN:GoodN N)(h6:Zok N){y:Ro}(hx:RtOk N x)(hy:RtOk N y):(Yi N x y).Perm ((Z1 (Zh N x)).filter fun o=>decide (o∈Z1 (Zh N y))):=by
 refine (Zl2 (ZiM (N:=N) (Zku hN h6 hx hy))).trans (ZEX (ZDA (XI N x y)) ((Yh _).filter _) fun o=>?_)
 rw[ZRn,List.mem_filter,decide_eq_true_eq]
theorem ZiN:∀c:List (Nat × Int),(∀p∈c,p.2=1\/p.2=2)->Zn0 c=(ZLa (fun n=>decide (n=1)) c).length
 | [],_=>rfl
 | (k,n)::c,h=>by
  have ih:=ZiN c fun p hp=>h p (by simp[hp])
  have h0:=h (k,n) (by simp)
  simp only at h0
  show n % 2+Zn0 c=_
  rw[ih];unfold ZLa;rw[List.filter_cons]
  rcases h0 with rfl|rfl
  ·simp;omega
  ·simp
theorem Zq2(N:ZJ)(x y:Ro):∀p∈ZFm N x y,p.2=1\/p.2=2:=fun p hp=>by
 have h1:=cnt2_mem.1 (List.mem_map.2 ⟨p,hp,rfl⟩)
 rw[<- ZVz (XI N x y) (show (p.1,p.2)∈ZFm N x y from hp),ZaL]
 by_cases a:p.1∈Z1 (Zh N x)<;>by_cases b:p.1∈Z1 (Zh N y)<;>simp[a,b]
 rcases h1 with q|q
 ·exact a q
 ·exact b q
theorem Zq3(N:ZJ)(x y:Ro):Zn1 N x y=(((Z1 (Zh N x)).filter fun o=>decide (o∉Z1 (Zh N y))).length+((Z1 (Zh N y)).filter fun o=>decide (o∉Z1 (Zh N x))).length:Nat):=by
 show Zn0 (ZFm N x y)=_
 rw[ZiN _ (Zq2 N x y),<- lL]
 congr 1
 refine (ZEX (ZDA (XI N x y)) ?_ fun o=>?_).length_eq
 ·refine List.nodup_append.2 ⟨(Yh _).filter _,(Yh _).filter _,fun a ha b hb e=>?_⟩
  subst e;rw[List.mem_filter,decide_eq_true_eq]at ha hb;exact hb.2 ha.1
 ·rw[Zl4,List.mem_append,List.mem_filter,List.mem_filter,decide_eq_true_eq,decide_eq_true_eq]
theorem Zq4{lv:Nat}{es:List (AV × AV)}{ks:List H64}(h8:QAbs.look e 8=.map lv ix)(hg:st.get lv ix=some (.map es))(hs:ZgB (fun n=>decide (n=2)) es=some ks)(hn:ks.Nodup)(hl:es.length<1000000000):
 Zh4 e st=some (.ret,[(6,.lit ((srtH ks).map hAV)),(7,.int .i64 0)],st):=by
 unfold Zh4;simp only[h8,hg,ZDF,oS,hs];rw[if_pos ⟨hn,hl⟩]
theorem Zol{N:ZJ}(hN:GoodN N){y:Ro}(hx:RtOk N x)(hy:RtOk N y):(ZC9 (ZFm N x y)).length<1000000000:=by
 have lx:=(Jg (Zh N x)).2.2;have ly:=(Jg (Zh N y)).2.2;have mx:=YD hN hx;have my:=YD hN hy
 have k1:=ZOX (Z1 (Zh N x)) [] (by simp)
 have k2:=ZOX (Z1 (Zh N y)) _ k1.1
 have:=k1.2
 have:=k2.2
 unfold ZFm
 simp only[ZC9,List.length_map,List.length_nil]at *
 omega
theorem ZiO{b:Nat}{N:ZJ}(hN:GoodN N)(h6:Zok N)(hR:Rd st la (b+5) N){y:Ro}(hx:RtOk N x)(hy:RtOk N y):
 S TW YP [.ptr la (b+5) 0 0 0,x.av,y.av] st=some (.tup [.lit ((Yi N x y).map QB),.int .i64 0],st):=by
 refine s_pr (X:=Zh4) (pre:=pS1) (rs:=rsV) Y (fun A hA=>?_)
 have hC:=Zh2 (A:=A) (X:=.arr 5 0 [x.av]) (Y':=.arr 5 0 [y.av]) hN (fun L=>hR.push hA (ro:=false) (L:=L)) hx hy
 have hlen:=Zol hN hx hy;have h64:=Zku hN h6 hx hy
 have hs:=Zkj (fun n=>decide (n=2)) (ZFm N x y) h64
 have hnd:=Zqm (ZiM (N:=N) h64) (ZDA (p:=fun n=>decide (n=2)) (XI N x y))
 have he:(srtH ((ZLa (fun n=>decide (n=2)) (ZFm N x y)).map toH)).map hAV=(Yi N x y).map QB:=by rw[Zql];rfl
 change S T3 ZAQ _ _=some (_,⟨A,false,[_,_,_,_,.map (ZC9 (ZFm N x y)),_,_,_,_]⟩) at hC
 generalize ZFm N x y=c at *
 rw[<- he]
 unfold Ro.av at *
 repeat'(first|refine ZE ?_|refine ZD ?_|refine ZG Y ?_|refine ZP Y Y Y Y ?_|refine Zs Y Y ?_|refine ZB Y ?_|refine ZC ?_|(refine cm0 Y Y Y ?_ ?_<;>intro _<;>try omega)|refine ZH Y ?_|refine Ze Y Y Y ?_|refine ZA Y Y Y (hC) ?_|refine ZI ?_|refine ZO ?_)
 all_goals try contradiction
 refine .inr ⟨rfl,_,_,_,Zq4 Y (by simp only[St.get,if_true];rfl) hs hnd hlen,?_⟩
 refine Zi hA (by simp) Y Y Y Y ?_
 rfl
structure Pce where
 k:Int
 n:Int
 t:B8
deriving DecidableEq
def Pce.av(p:Pce):AV:=.agg [.int .u8 p.k,.int .i64 p.n,.str p.t]
def XJ(p:Pce):Prop:=((p.k=1\/p.k=3)/\1<=p.n/\p.t=[])\/(p.k=2/\p.n=0/\p.t≠[])
instance (p:Pce):Decidable (XJ p):=by unfold XJ;exact inferInstance
def inP(p:Pce):Int:=if p.k=1\/p.k=3 then p.n else 0
def ZFn(p:Pce):Int:=if p.k=1 then p.n else if p.k=3 then 0 else p.t.length
theorem Zom(p:Pce)(st:St):S Tb ZDi [p.av] st=some (.bool (decide (XJ p)),st):=by
 refine QK Y (fun A hA=>?_)
 obtain⟨k,n,t⟩:=p;unfold Pce.av;unfold XJ
 simp only
 by_cases h1:k=1
 ·subst h1
  repeat'(first|refine ZE ?_|refine ZD ?_|refine ZG Y ?_|refine ZU Y Y ?_|refine ZP Y Y Y Y ?_|refine QE Y ?_|refine JW Y Y ?_|refine Zo Y Y Y Y ?_|refine ZB Y ?_|refine ZC ?_|(refine cm0 Y Y Y ?_ ?_<;>intro _<;>try omega)|(refine Yt Y Y (fun _=>?_) (fun _=>?_)<;>try contradiction)|refine ZW Y ?_|refine Ze Y Y Y ?_|refine ZI ?_|refine ZQ ?_|refine ZL ?_|refine ZO ?_|refine Za ?_|refine QN ?_)
  all_goals try omega
  all_goals refine Zi hA (by simp) Y Y Y Y ?_
  all_goals simp
  all_goals first|(constructor<;>first|omega|assumption)|(intro q;first|assumption|(exfalso;omega))
 ·by_cases h3:k=3
  ·subst h3
   repeat'(first|refine ZE ?_|refine ZD ?_|refine ZG Y ?_|refine ZU Y Y ?_|refine ZP Y Y Y Y ?_|refine QE Y ?_|refine JW Y Y ?_|refine Zo Y Y Y Y ?_|refine ZB Y ?_|refine ZC ?_|(refine cm0 Y Y Y ?_ ?_<;>intro _<;>try omega)|(refine Yt Y Y (fun _=>?_) (fun _=>?_)<;>try contradiction)|refine ZW Y ?_|refine ZH Y ?_|refine Ze Y Y Y ?_|refine ZQ ?_|refine ZL ?_|refine ZO ?_|refine Za ?_|refine QN ?_)
   all_goals try omega
   all_goals try contradiction
   all_goals refine Zi hA (by simp) Y Y Y Y ?_
   all_goals simp
   all_goals first|(constructor<;>first|omega|assumption)|(intro q;first|assumption|(exfalso;omega))
  ·by_cases h2:k=2
   ·subst h2
    repeat'(first|refine ZE ?_|refine ZD ?_|refine ZG Y ?_|refine ZU Y Y ?_|refine ZP Y Y Y Y ?_|refine QE Y ?_|refine JW Y Y ?_|refine Zo Y Y Y Y ?_|refine ZB Y ?_|refine ZC ?_|(refine cm0 Y Y Y ?_ ?_<;>intro _<;>try omega)|(refine ZkG Y Y (fun _=>?_) (fun _=>?_)<;>try contradiction)|refine ZW Y ?_|refine ZH Y ?_|refine Ze Y Y Y ?_|refine ZQ ?_|refine ZL ?_|refine ZO ?_|refine Za ?_|refine QN ?_)
    all_goals try omega
    all_goals try contradiction
    all_goals refine Zi hA (by simp) Y Y Y Y ?_
    all_goals simp
    all_goals first|(constructor<;>first|omega|assumption)|(intro q;first|assumption|(exfalso;omega))
   ·repeat'(first|refine ZE ?_|refine ZD ?_|refine ZG Y ?_|refine ZU Y Y ?_|refine ZP Y Y Y Y ?_|refine ZB Y ?_|refine ZC ?_|(refine cm0 Y Y Y ?_ ?_<;>intro _<;>try omega)|refine ZH Y ?_|refine Ze Y Y Y ?_|refine ZI ?_|refine ZQ ?_|refine ZL ?_|refine ZO ?_|refine Zz ?_)
    all_goals try omega
    all_goals try contradiction
    all_goals refine Zi hA (by simp) Y Y Y Y ?_
    all_goals simp[h1,h2,h3]
theorem Zon(p:Pce)(ht:p.t.length<4294967296)(st:St):S Tb ZDj [p.av] st=some (.tup [.int .i64 (inP p),.int .i64 (ZFn p)],st):=by
 refine QK Y (fun A hA=>?_)
 obtain⟨k,n,t⟩:=p;unfold Pce.av inP ZFn
 simp only at *
 by_cases h1:k=1
 ·subst h1
  repeat'(first|refine ZE ?_|refine ZD ?_|refine ZG Y ?_|refine ZU Y Y ?_|refine ZP Y Y Y Y ?_|refine ZB Y ?_|refine ZC ?_|(refine cm0 Y Y Y ?_ ?_<;>intro _<;>try omega)|refine ZW Y ?_|refine Ze Y Y Y ?_|refine ZQ ?_|refine ZL ?_|refine ZO ?_|refine Za ?_|refine QN ?_)
  all_goals try omega
  all_goals refine Zi hA (by simp) Y Y Y Y ?_
  all_goals simp
 ·by_cases h3:k=3
  ·subst h3
   repeat'(first|refine ZE ?_|refine ZD ?_|refine ZG Y ?_|refine ZU Y Y ?_|refine ZP Y Y Y Y ?_|refine ZB Y ?_|refine ZC ?_|(refine cm0 Y Y Y ?_ ?_<;>intro _<;>try omega)|refine ZW Y ?_|refine ZH Y ?_|refine Ze Y Y Y ?_|refine ZQ ?_|refine ZL ?_|refine ZO ?_|refine Za ?_|refine QN ?_)
   all_goals try omega
   all_goals refine Zi hA (by simp) Y Y Y Y ?_
   all_goals simp
  ·repeat'(first|refine ZE ?_|refine ZD ?_|refine ZG Y ?_|refine ZU Y Y ?_|refine ZP Y Y Y Y ?_|refine ZB Y ?_|refine ZC ?_|refine JR Y ?_|(refine cm0 Y Y Y ?_ ?_<;>intro _<;>try omega)|refine ZH Y ?_|refine Ze Y Y Y ?_|refine ZI ?_|refine ZQ ?_|refine ZL ?_|refine ZO ?_|refine Zz ?_)
   all_goals try omega
   all_goals try contradiction
   all_goals refine Zi hA (by simp) Y Y Y Y ?_
   all_goals simp[h1,h3]
def inL(l:List Pce):Int:=(l.map inP).sum
def Y0(l:List Pce):Int:=(l.map ZFn).sum
structure DlOk(l:List Pce):Prop where
 v:∀p∈l,XJ p
 n:l.length<=4096
 i:inL l<=1048576
 o:Y0 l<=1048576
theorem Zoo{p:Pce}(h:XJ p):0<=inP p/\0<=ZFn p:=by
 unfold XJ at h;unfold inP ZFn
 rcases h with⟨h1,h2,h3⟩|⟨h1,h2,h3⟩
 ·rw[if_pos h1]
  refine⟨by omega,?_⟩
  split
  ·omega
  ·split<;>omega
 ·rw[if_neg (by omega),if_neg (by omega),if_neg (by omega)];omega
theorem ZIl{l:List Pce}(h:∀p∈l,XJ p):0<=inL l/\0<=Y0 l:=by
 induction l with
 | nil=>simp[inL,Y0]
 | cons p l ih =>
  obtain⟨i1,i2⟩:=ih fun q hq=>h q (by simp[hq])
  obtain⟨j1,j2⟩:=Zoo (h p (by simp))
  simp only[inL,Y0,jC,List.sum_cons]at *
  omega
theorem ZI7(l:List Pce)(i:Nat):inL l=inL (l.take i)+inL (l.drop i)/\Y0 l=Y0 (l.take i)+Y0 (l.drop i):=by
 unfold inL Y0;rw[<- List.sum_append,<- List.sum_append,<- List.map_append,<- List.map_append,List.take_append_drop];exact⟨rfl,rfl⟩
theorem DlOk.text{l:List Pce}(h:DlOk l){p:Pce}(hp:p∈l):p.t.length<4294967296:=by
 have hv:=h.v p hp
 by_cases hk:p.k=2
 ·have h1:ZFn p=p.t.length:=by unfold ZFn;rw[if_neg (by omega),if_neg (by omega)]
  obtain⟨i,hi⟩:=List.getElem?_of_mem hp;have h2:=(ZI7 l i).2
  have hd:l.drop i=p::l.drop (i+1):=by
   have:=Zt hi
   rw[List.drop_eq_getElem_cons this];rw[jE this]at hi;simp only[oJ]at hi;rw[hi]
  have h3:=(ZIl (l:=l.take i) fun q hq=>h.v q (List.mem_of_mem_take hq)).2
  have h4:=(ZIl (l:=l.drop (i+1)) fun q hq=>h.v q (List.mem_of_mem_drop hq)).2
  have h5:=h.o;rw[h2,hd]at h5;simp only[Y0,jC,List.sum_cons]at h5 h3 h4;omega
 ·unfold XJ at hv
  rcases hv with⟨_,_,h3⟩|⟨h1,_⟩
  ·rw[h3];simp
  ·exact absurd h1 hk
section
variable {O:Orc}{k:List Fr}{Q:J0}{e:Env}{A:List (Bool × List Blk)}{L:List Blk}{keep:List Nat}{is:List QAbs.PI}
theorem is_stP{a x:Opd}{y:AV}{p:Pce}(ha:Zd e a=some (.ptr A.length L.length 0 0 0))(hx:Zd e x=some p.av)(h:Is O is keep k Q e ⟨A,false,L++[Blk.arr 3 0 [p.av]]⟩):
 Is O (⟨none,none,false,.st 3 a x⟩::is) keep k Q e ⟨A,false,L++[Blk.arr 3 0 [y]]⟩ :=
 ZIb (L0:=L) (T:=[Blk.arr 3 0 [y]]) (ix:=0) (i:=0) (w:=3) (ver:=0) (es:=[y]) ha hx rfl rfl rfl rfl (XF _) h
theorem Zop{a:Opd}{p:Pce}(ha:Zd e a=some (.ptr A.length L.length 0 0 0))
 (h:Is O is keep k Q ((d,p.av)::e) ⟨A,false,L++[Blk.arr 3 0 [p.av]]⟩):Is O (⟨some d,none,false,.ld true 3 a⟩::is) keep k Q e ⟨A,false,L++[Blk.arr 3 0 [p.av]]⟩ :=
 ZP ha (List.getElem?_concat_length ..) rfl rfl h
end
end Go.Q15
namespace Go.QAbs
variable {w:AV}{e:Env}{g:FuncId}{a z:Int}{Q:J0}{A:List (Bool × List Blk)}{caps:LV}{k:List Fr}{l:List Nat}{s s0:B8}{d i ix la lm mx n o ver:Nat}{O:Orc}{st:St}
section
variable {O:Orc}{k:List Fr}{Q:J0}{e:Env}{A A0:List (Bool × List Blk)}{L L0 T:List Blk}{keep:List Nat}{is:List PI}{d:Nat}{ks:List (Nat × Nat)}{b0 bs:List Blk}
end
end Go.QAbs
namespace Go.Q15
open Go Go.QAbs
variable {w:AV}{e:Env}{g:FuncId}{a z:Int}{Q:J0}{A:List (Bool × List Blk)}{caps:LV}{k:List Fr}{l:List Nat}{s s0:B8}{d i ix la lm mx n o ver:Nat}{O:Orc}{ro x:Ro}{st:St}{t:Tr}
end Go.Q15
