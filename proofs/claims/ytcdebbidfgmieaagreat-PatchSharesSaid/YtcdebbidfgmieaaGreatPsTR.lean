/- A part of the proof: CUc, CUd, CUe, CUf, CUg, CUh, CUb, CUi, CUj, PEb, PEc, PEd, PEe, PEf, PEg, PEh, PEi, PEj, SM, SRa, PSk, PSm, FY, TZs. No condition. -/
import Derived.SliceStrings
import Derived.Deep.Slices
import Derived.Carry
import Derived.Test.YtcdebbidfgmieaaGreatPsT9
set_option linter.unusedVariables false
set_option linter.unusedSimpArgs false
set_option maxHeartbeats 32000000
set_option maxRecDepth 100000
namespace Go.Q15
open Go Go.QAbs
variable {a:Int}{A:List (Bool × List Blk)}{s s0:B8}{i iw ix la lw w:Nat}{p:Pce}{ro:Ro}{st:St}{d t x:Tr}
structure RdO(st:St)(la ix:Nat)(N:ZJ)(ks:List (Nat × Nat)):Prop where
 at_:∃a0 a1 im a3 a4 a5,st.get la ix=some (.arr 6 0 [.agg [a0,a1,.map la im,a3,a4,a5]])/\st.get la im=some (.map (N.map nodeAV))/\(la,ix)∉ks/\(la,im)∉ks
theorem RdO.rd{N:ZJ}{ks:List (Nat × Nat)}(h:RdO st la ix N ks):Rd st la ix N:=by
 obtain⟨a0,a1,im,a3,a4,a5,h1,h2,_⟩:=h;exact⟨a0,a1,im,a3,a4,a5,h1,h2⟩
theorem RdO.putS{ks:List (Nat × Nat)}{b0 bs:List Blk}{N:ZJ}(h:RdO st la ix N ks)(H:Cl st ks b0)(hl:bs.length=ks.length)(hn:bs.all noH=true):RdO (Qp st ks bs) la ix N ks:=by
 obtain⟨a0,a1,im,a3,a4,a5,h1,h2,h3,h4⟩:=h;exact⟨a0,a1,im,a3,a4,a5,(H.out hl hn h3).trans h1,(H.out hl hn h4).trans h2,h3,h4⟩
def Tr.cs:Tr->LV
 | .mk o h m s k=>[.int .u64 o,.int .i64 h,.int .i64 m.b,.int .i64 m.r,.int .i64 m.l,.str s,Tr.avO k]
def wAV(la b:Nat)(d r:Tr):AV:=.agg (.ptr la (b+5) 0 0 0::(d.cs++r.cs))
def wB(la b:Nat)(d r:Tr):Blk:=.arr 15 0 [wAV la b d r]
theorem ZV4(la b:Nat)(d r:Tr):Q3 (wAV la b d r) false 0 1=some (.ptr la (b+5) 0 0 0):=by cases d;cases r;rfl
theorem ZV5(la b:Nat)(d r:Tr):Q3 (wAV la b d r) true 1 7=some d.av:=by cases d;cases r;rfl
theorem Zkv(la b:Nat)(d r:Tr):Q3 (wAV la b d r) true 8 7=some r.av:=by cases d;cases r;rfl
theorem Zor(la b:Nat)(d r t:Tr):(Q2 15 (wAV la b d r) 1 7 t.av).bind J1=some (wAV la b t r):=by
 cases d;cases r;cases t
 rename_i k1 _ _ _ _ k2 _ _ _ _ k3
 cases k1<;>cases k2<;>cases k3<;>rfl
theorem Zos(la b:Nat)(d r t:Tr):(Q2 15 (wAV la b d r) 8 7 t.av).bind J1=some (wAV la b d t):=by
 cases d;cases r;cases t
 rename_i k1 _ _ _ _ k2 _ _ _ _ k3
 cases k1<;>cases k2<;>cases k3<;>rfl
theorem Zl5{b:Nat}{N:ZJ}{r:Tr}(H:Cl st [(lw,iw)] [wB la b d r])(hR:RdO st la (b+5) N [(lw,iw)])(hN:GoodN N)(hd:VE N d)(hb:d.bytes+s.length<=65536):
 S Tb Q1 [.ptr lw iw 0 0 0,(⟨2,0,s⟩:Pce).av] st=some (.int .i64 0,Qp st [(lw,iw)] [wB la b (concM N d (QX s)).own r]):=by
 refine ZAc Y (fun A hA=>?_)
 have hg:=H.get 0 lw iw _ rfl rfl;unfold wB at hg
 have g:=fun L=>ZX hA (ro:=false) (L:=L) hg
 have hs:s.length<=65536:=by have:=hd.pos.2;omega
 obtain⟨b1,b2,b3⟩:=J5 hN (s:=s) hs
 have hB:=fun st=>ZVu hN s hs st
 have hC:=fun L=>Zhg hN (hR.rd.push hA (ro:=false) (L:=L)) hd b1 (by rw[b3];exact hb)
 have w0:=ZV4 la b d r;have w1:=ZV5 la b d r
 generalize QX s=bt at *
 generalize (concM N d bt).own=t at *
 simp only[Pce.av]
 repeat'(first|refine Z9 Y (g _) Y w0 ?_|refine Z9 Y (g _) Y w1 ?_|refine ZE ?_|refine ZD ?_|refine ZG Y ?_|refine ZU Y Y ?_|refine ZP Y Y Y Y ?_|refine QE Y ?_|refine Zo Y Y Y Y ?_|refine Zs Y Y ?_|refine ZB Y ?_|refine ZC ?_|refine Z5 Y Y ?_|(refine cm0 Y Y Y ?_ ?_<;>intro _<;>try omega)|(refine cm0 Y Y Y ?_ ?_<;>intro _<;>try omega)|refine ZW Y ?_|refine ZH Y ?_|refine Zq Y Y Y ?_|refine Ze Y Y Y ?_|refine Zr Y Y Y Y Y Y ?_|refine ZA Y Y (by first|rfl|(simp only[lE,lN,lC,ZY,ZS,ZV];first|done|rfl)) (hB _) ?_|refine ZA Y Y (by first|rfl|(simp only[lE,lN,lC,ZY,ZS,ZV];first|done|rfl)) (hC _) ?_|refine ZP Y Y Y (Zk _) ?_|refine Zr Y Y Y (Z7 _ _ _) (QQ _ _) Y ?_|refine ZI ?_)
 all_goals try omega
 all_goals try contradiction
 have hA0:A=(Qp st [(lw,iw)] [wB la b d r]).ps:=by rw[H.same];exact hA
 refine ZRa (j:=0) (v:=t.av) H hA0 Y Y Y Y Y Y Y (Z7 _ _ _) (Zor la b d r t) (fun A2 hA2 _=>?_)
 repeat'(first|refine ZE ?_|refine ZD ?_|refine ZG Y ?_|refine ZB Y ?_|refine ZC ?_|refine ZQ ?_|refine ZO ?_)
 all_goals exact ZAr (st:=Qp st [(lw,iw)] [wB la b t r]) hA2 (.inr Y) Y Y Y
theorem Zot{N:ZJ}(hN:GoodN N){lv:Nat}(hr:Rd st lv ix N)(ht:VE N t)(a:Int)(h0:0<=a)(h1:a<=t.bytes)(hb:t.bytes<=65536):
 S Tb ZKS [.ptr lv ix 0 0 0,t.av,.int .i64 a] st=some (.tup [(cutF N t.h t a).1.own.av,(cutF N t.h t a).2.own.av,.int .i64 0],st):=by
 refine QK Y (fun A hA=>?_)
 have hrp:=fun L=>hr.push hA (ro:=false) (L:=L)
 have hC:=fun L=>ZEP (hrp L) ht hb
 have hB:=fun st=>Xs t ht.pos.1 (by omega) st
 have hK:=fun L=>Zne hN t.h (hrp L) ht rfl a h0 h1 hb
 have hok:=Xu hN t.h t a ht rfl h0 h1 hb
 have hO1:=fun st=>Zha _ hok.l.pos.1 st
 have hO2:=fun st=>Zha _ hok.r.pos.1 st
 generalize cutF N t.h t a=r at *
 obtain⟨r1,r2⟩:=r
 simp only at *
 generalize r1.own=o1 at *
 generalize r2.own=o2 at *
 repeat'(first|refine ZE ?_|refine ZD ?_|refine ZG Y ?_|refine QE Y ?_|refine Zo Y Y Y Y ?_|refine Zs Y Y ?_|refine ZB Y ?_|refine ZC ?_|(refine cm0 Y Y Y ?_ ?_<;>intro _<;>try omega)|(refine cm0 Y Y Y ?_ ?_<;>intro _<;>try omega)|(refine cm0 Y Y Y ?_ ?_<;>intro _<;>try omega)|refine ZH Y ?_|refine Ze Y Y Y ?_|refine ZP Y Y Y (Zk _) ?_|refine Zr Y Y Y (Z7 _ _ _) (QQ _ _) Y ?_|refine Zx Y (Z0 _) (QA _) ?_|refine ZA Y Y (by first|rfl|(simp only[lE,lN,lC,ZY,ZS,ZV];first|done|rfl)) (hC _) ?_|refine ZA Y Y (by first|rfl|(simp only[lE,lN,lC,ZY,ZS,ZV];first|done|rfl)) (hB _) ?_|refine ZA Y Y (by first|rfl|(simp only[lE,lN,lC,ZY,ZS,ZV];first|done|rfl)) (hK _) ?_|refine YL Y Y (wk1 _) (hO1 _) ?_|refine ZA Y Y (by first|rfl|(simp only[lE,lN,lC,ZY,ZS,ZV];first|done|rfl)) (hO2 _) ?_|refine ZI ?_|refine ZQ ?_|refine ZO ?_)
 all_goals try omega
 exact ZDa hA (.inr Y) Y Y Y Y Y Y
theorem Zjp{b:Nat}{N:ZJ}{r:Tr}{n:Int}(H:Cl st [(lw,iw)] [wB la b d r])(hR:RdO st la (b+5) N [(lw,iw)])(hN:GoodN N)(hd:VE N d)(hr:VE N r)(h0:0<=n)(h1:n<=r.bytes)(hb:d.bytes+n<=65536)(hb2:r.bytes<=65536):
 S Tb Q1 [.ptr lw iw 0 0 0,(⟨1,n,[]⟩:Pce).av] st=some (.int .i64 0,Qp st [(lw,iw)] [wB la b (concM N d (cutF N r.h r n).1.own).own (cutF N r.h r n).2.own]):=by
 refine ZAc Y (fun A hA=>?_)
 have hg:=H.get 0 lw iw _ rfl rfl;unfold wB at hg
 have g:=fun L=>ZX hA (ro:=false) (L:=L) hg
 have hA0:A=(Qp st [(lw,iw)] [wB la b d r]).ps:=by rw[H.same];exact hA
 have c1:=Xu hN r.h r n hr rfl h0 h1 hb2
 have hC:=fun L=>Zot hN (hR.rd.push hA (ro:=false) (L:=L)) hr n h0 h1 hb2
 have hl:=ZIh c1.l
 have hlb:(cutF N r.h r n).1.own.bytes=n:=by rw[J6];exact c1.lb
 have w0:=ZV4 la b d r;have w1:=ZV5 la b d r;have w8:=Zkv la b d r
 generalize (cutF N r.h r n).1.own=cl at *
 generalize (cutF N r.h r n).2.own=cr at *
 have w0':=ZV4 la b d cr;have w1':=ZV5 la b d cr;simp only[Pce.av]
 repeat'(first|refine Z9 Y (g _) Y w0 ?_|refine Z9 Y (g _) Y w8 ?_|refine ZE ?_|refine ZD ?_|refine ZG Y ?_|refine ZU Y Y ?_|refine ZP Y Y Y Y ?_|refine Zs Y Y ?_|refine ZB Y ?_|refine ZC ?_|refine Z5 Y Y ?_|(refine cm0 Y Y Y ?_ ?_<;>intro _<;>try omega)|refine ZH Y ?_|refine Zq Y Y Y ?_|refine Ze Y Y Y ?_|refine Zr Y Y Y Y Y Y ?_|refine ZA Y Y (by first|rfl|(simp only[lE,lN,lC,ZY,ZS,ZV];first|done|rfl)) (hC _) ?_|refine Zr Y Y Y (Z7 _ _ _) (QQ _ _) Y ?_)
 all_goals try omega
 all_goals try contradiction
 refine ZRa (j:=0) (v:=cr.av) H hA0 Y Y Y Y Y Y Y (Z7 _ _ _) (Zos la b d r cr) (fun A2 hA2 hA2l=>?_)
 have hP:(Qp st [(lw,iw)] [wB la b d cr]).get lw iw=some (wB la b d cr):=(H.put rfl rfl).get 0 lw iw _ rfl rfl;unfold wB at hP
 have g2:=fun L=>ZX (A:=A2) hA2 (ro:=false) (L:=L) hP
 have hK:=fun L=>Zhg hN ((hR.putS H (bs:=[wB la b d cr]) rfl rfl).rd.push hA2 (ro:=false) (L:=L)) hd hl (by rw[hlb];exact hb)
 generalize (concM N d cl).own=t at *
 rw[<- hA2l]
 repeat'(first|refine Z9 Y (g2 _) Y w0' ?_|refine Z9 Y (g2 _) Y w1' ?_|refine ZE ?_|refine ZD ?_|refine ZG Y ?_|refine ZU Y Y ?_|refine ZP Y Y Y Y ?_|refine QE Y ?_|refine Zo Y Y Y Y ?_|refine Zs Y Y ?_|refine ZB Y ?_|refine ZC ?_|refine Z5 Y Y ?_|(refine cm0 Y Y Y ?_ ?_<;>intro _<;>try omega)|(refine cm0 Y Y Y ?_ ?_<;>intro _<;>try omega)|refine ZH Y ?_|refine ZA Y Y (by first|rfl|(simp only[lE,lN,lC,ZY,ZS,ZV];first|done|rfl)) (hK _) ?_|refine ZP Y Y Y (Zk _) ?_|refine ZI ?_)
 all_goals try omega
 all_goals try contradiction
 refine ZRa (j:=0) (v:=t.av) (bs:=[wB la b d cr]) H hA2 Y Y Y Y Y Y Y (Z7 _ _ _) (Zor la b d cr t) (fun A3 hA3 _=>?_)
 repeat'(first|refine ZE ?_|refine ZD ?_|refine ZG Y ?_|refine ZB Y ?_|refine ZC ?_|refine ZQ ?_|refine ZO ?_)
 all_goals exact ZAr (st:=Qp st [(lw,iw)] [wB la b t cr]) hA3 (.inr Y) Y Y Y
theorem Zjq{b:Nat}{N:ZJ}{r:Tr}{n:Int}(H:Cl st [(lw,iw)] [wB la b d r])(hR:RdO st la (b+5) N [(lw,iw)])(hN:GoodN N)(hr:VE N r)(h0:0<=n)(h1:n<=r.bytes)(hb2:r.bytes<=65536):
 S Tb Q1 [.ptr lw iw 0 0 0,(⟨3,n,[]⟩:Pce).av] st=some (.int .i64 0,Qp st [(lw,iw)] [wB la b d (cutF N r.h r n).2.own]):=by
 refine ZAc Y (fun A hA=>?_)
 have hg:=H.get 0 lw iw _ rfl rfl;unfold wB at hg
 have g:=fun L=>ZX hA (ro:=false) (L:=L) hg
 have hA0:A=(Qp st [(lw,iw)] [wB la b d r]).ps:=by rw[H.same];exact hA
 have hC:=fun L=>Zot hN (hR.rd.push hA (ro:=false) (L:=L)) hr n h0 h1 hb2
 have w0:=ZV4 la b d r;have w8:=Zkv la b d r
 generalize (cutF N r.h r n).1.own=cl at *
 generalize (cutF N r.h r n).2.own=cr at *
 simp only[Pce.av]
 repeat'(first|refine Z9 Y (g _) Y w0 ?_|refine Z9 Y (g _) Y w8 ?_|refine ZE ?_|refine ZD ?_|refine ZG Y ?_|refine ZU Y Y ?_|refine ZP Y Y Y Y ?_|refine Zs Y Y ?_|refine ZB Y ?_|refine ZC ?_|refine Z5 Y Y ?_|(refine cm0 Y Y Y ?_ ?_<;>intro _<;>try omega)|refine ZH Y ?_|refine Zq Y Y Y ?_|refine Ze Y Y Y ?_|refine Zr Y Y Y Y Y Y ?_|refine ZA Y Y (by first|rfl|(simp only[lE,lN,lC,ZY,ZS,ZV];first|done|rfl)) (hC _) ?_|refine Zr Y Y Y (Z7 _ _ _) (QQ _ _) Y ?_)
 all_goals try omega
 all_goals try contradiction
 refine ZRa (j:=0) (v:=cr.av) H hA0 Y Y Y Y Y Y Y (Z7 _ _ _) (Zos la b d r cr) (fun A2 hA2 hA2l=>?_)
 rw[<- hA2l]
 repeat'(first|refine ZE ?_|refine ZD ?_|refine ZG Y ?_|refine ZU Y Y ?_|refine ZP Y Y Y Y ?_|refine QE Y ?_|refine Zo Y Y Y Y ?_|refine ZB Y ?_|refine ZC ?_|(refine cm0 Y Y Y ?_ ?_<;>intro _<;>try omega)|refine ZW Y ?_|refine ZQ ?_|refine ZO ?_|refine Za ?_)
 all_goals try omega
 all_goals try contradiction
 all_goals exact ZAr (st:=Qp st [(lw,iw)] [wB la b d cr]) hA2 (.inr Y) Y Y Y
noncomputable def ZAG(N:ZJ)(q:Tr × Tr)(p:Pce):Tr × Tr :=
 if p.k=2 then ((concM N q.1 (QX p.t)).own,q.2)
 else if p.k=1 then ((concM N q.1 (cutF N q.2.h q.2 p.n).1.own).own,(cutF N q.2.h q.2 p.n).2.own)
 else (q.1,(cutF N q.2.h q.2 p.n).2.own)
noncomputable def Xa(N:ZJ)(t:Tr)(l:List Pce):Tr × Tr:=l.foldl (ZAG N) (.zero,t)
theorem ZFp(N:ZJ)(t:Tr)(l:List Pce)(p:Pce):Xa N t (l++[p])=ZAG N (Xa N t l) p:=by simp[Xa]
structure PlOk(N:ZJ)(t:Tr)(l:List Pce)(q:Tr × Tr):Prop where
 d:VE N q.1
 r:VE N q.2
 db:q.1.bytes=Y0 l
 rb:q.2.bytes=t.bytes-inL l
theorem VE.zero(N:ZJ):VE N .zero:=.inl zero_empty
theorem Zou{N:ZJ}(hN:GoodN N){l:List Pce}{q:Tr × Tr}(h:PlOk N t l q)(hl:∀p∈l,XJ p)(hp:XJ p)(ht:t.bytes<=65536)(hi:inL (l++[p])<=t.bytes)(ho:Y0 (l++[p])<=65536):PlOk N t (l++[p]) (ZAG N q p):=by
 obtain⟨hd,hr,hdb,hrb⟩:=h
 have e1:inL (l++[p])=inL l+inP p/\Y0 (l++[p])=Y0 l+ZFn p:=by simp[inL,Y0]
 obtain⟨i1,i2⟩:=ZIl hl;rw[e1.1]at hi;rw[e1.2]at ho;unfold ZAG;unfold XJ at hp
 split
 ·rename_i h2
  have ei:inP p=0:=by unfold inP;rw[if_neg (by omega)]
  have eo:ZFn p=p.t.length:=by unfold ZFn;rw[if_neg (by omega),if_neg (by omega)]
  obtain⟨b1,b2,b3⟩:=J5 hN (s:=p.t) (by omega)
  have k1:=Ym hN hd b1 (by rw[b3];omega)
  exact⟨ZIh k1.ve,hr,by rw[J6,k1.bytes,b3,e1.2];omega,by show q.2.bytes=_;rw[e1.1];omega⟩
 ·rename_i h2
  have ei:inP p=p.n:=by unfold inP;rw[if_pos (by omega)]
  have c1:=Xu hN q.2.h q.2 p.n hr rfl (by omega) (by omega) (by omega)
  split
  ·rename_i h1
   have eo:ZFn p=p.n:=by unfold ZFn;rw[if_pos h1]
   have hlb:(cutF N q.2.h q.2 p.n).1.own.bytes=p.n:=by rw[J6];exact c1.lb
   have k1:=Ym hN hd (ZIh c1.l) (by rw[hlb];omega)
   refine⟨ZIh k1.ve,ZIh c1.r,by rw[J6,k1.bytes,hlb,e1.2];omega,?_⟩
   rw[J6,c1.rb,e1.1];omega
  ·rename_i h1
   have eo:ZFn p=0:=by unfold ZFn;rw[if_neg h1,if_pos (by omega)]
   refine⟨hd,ZIh c1.r,by show q.1.bytes=_;rw[e1.2];omega,?_⟩
   rw[J6,c1.rb,e1.1];omega
theorem ZiQ{N:ZJ}(hN:GoodN N){t:Tr}(hv:VE N t)(ht:t.bytes<=65536){l:List Pce}(hl:∀p∈l,XJ p)(hi:inL l<=t.bytes)(ho:Y0 l<=65536):∀i,PlOk N t (l.take i) (Xa N t (l.take i))
 | 0=>⟨VE.zero N,hv,rfl,by simp[inL,Xa]⟩
 | i+1=>by
  have ih:=ZiQ hN hv ht hl hi ho i
  rcases Nat.lt_or_ge i l.length with hlt|hge
  ·obtain⟨p,hp⟩:∃x,l[i]?=some x:=⟨l[i]'hlt,jE _⟩
   have e:l.take (i+1)=l.take i++[p]:=Zb hp;obtain⟨s1,s2⟩:=ZI7 l (i+1)
   obtain⟨n1,n2⟩:=ZIl (l:=l.drop (i+1)) fun q hq=>hl q (List.mem_of_mem_drop hq)
   rw[e]at s1 s2 ⊢;rw[ZFp]
   exact Zou hN ih (fun q hq=>hl q (List.mem_of_mem_take hq)) (hl p (jM hp)) ht (by omega) (by omega)
  ·rw[List.take_of_length_le (by omega)]at ih ⊢
   exact ih
theorem Zq5{b:Nat}{N:ZJ}{l:List Pce}{q:Tr × Tr}(H:Cl st [(lw,iw)] [wB la b q.1 q.2])(hR:RdO st la (b+5) N [(lw,iw)])(hN:GoodN N)(h:PlOk N t l q)(hl:∀p∈l,XJ p)(hp:XJ p)(ht:t.bytes<=65536)(hi:inL (l++[p])<=t.bytes)(ho:Y0 (l++[p])<=65536):
 S Tb Q1 [.ptr lw iw 0 0 0,p.av] st=some (.int .i64 0,Qp st [(lw,iw)] [wB la b (ZAG N q p).1 (ZAG N q p).2]):=by
 obtain⟨hd,hr,hdb,hrb⟩:=h
 have e1:inL (l++[p])=inL l+inP p/\Y0 (l++[p])=Y0 l+ZFn p:=by simp[inL,Y0]
 obtain⟨i1,i2⟩:=ZIl hl;rw[e1.1]at hi;rw[e1.2]at ho;obtain⟨k,n,s⟩:=p;unfold XJ at hp;unfold inP at hi;unfold ZFn at ho;unfold ZAG
 simp only at *
 rcases hp with⟨h1,h2,h3⟩|⟨h1,h2,h3⟩
 ·subst h3
  rcases h1 with rfl|rfl
  ·rw[if_neg (by decide),if_pos rfl]
   simp only[true_or,if_true]at hi ho
   exact Zjp H hR hN hd hr (by omega) (by omega) (by omega) (by omega)
  ·rw[if_neg (by decide),if_neg (by decide)]
   simp only[or_true,if_true]at hi
   exact Zjq H hR hN hr (by omega) (by omega) (by omega)
 ·subst h1 h2
  rw[if_pos rfl]
  rw[if_neg (by decide),if_neg (by decide)]at ho
  exact Zl5 H hR hN hd (by omega)
noncomputable def ZaO(N:ZJ)(ro:Ro)(l:List Pce):Tr:=(Xa N (YF ro) l).1
structure PaOk(N:ZJ)(ro:Ro)(s0:B8)(l:List Pce):Prop where
 rt:Rt N ro s0
 dl:DlOk l
 i:inL l=s0.length
 o:Y0 l<=65536
 b:s0.length<=60000
section
variable {O:Orc}{k:List Fr}{Q:J0}{e:Env}{st:St}{keep:List Nat}{is:List QAbs.PI}
theorem Zl6{d b:Nat}{x y:Opd}(hx:Zd e x=some (.ptr la (b+5) 0 0 0))(hy:Zd e y=some t.av)(h:Is O is keep k Q ((d,wAV la b .zero t)::e) st):
 Is O (⟨some d,none,false,.build [.nilptr,(.int .u64 0),(.int .i64 0),(.int .i64 0),(.int .i64 0),(.int .i64 0),(.str []),.nils,(.int .u64 0),(.int .i64 0),(.int .i64 0),(.int .i64 0),(.int .i64 0),(.str []),.nils] [(0,1,x),(8,7,y)]⟩::is) keep k Q e st:=by
 refine Z3 (od:=some d) (v:=wAV la b .zero t) (st':=st) ?_ h
 cases t
 rename_i k1
 have e1:Y2 e [(0,1,x),(8,7,y)]=[(0,1,x.get e),(8,7,y.get e)]:=rfl;simp only[Zg,evalPO,e1,ZF hx,ZF hy]
 cases k1<;>simp only[fillV,Tr.av,Tr.avO,AV.wide,AV.cells]<;>rfl
end
theorem ZsQ(la b:Nat)(d r:Tr):(wAV la b d r).wide=some 15:=by
 cases d;cases r
 rename_i k1 _ _ _ _ k2
 cases k1<;>cases k2<;>rfl
theorem Zq6(la b:Nat)(d r:Tr):J1 (wAV la b d r)=some (wAV la b d r):=by
 cases d;cases r
 rename_i k1 _ _ _ _ k2
 cases k1<;>cases k2<;>rfl
theorem Zsx{L:List Blk}{x:Blk}:Qp ⟨A,false,L⟩ [(A.length,i)] [x]=⟨A,false,L.set i x⟩:=by
 simp[Qp,St.upd]
def Sm(x y:Tr):Prop:=x.own=y.own
def SmL(l m:List Tr):Prop:=l.map Tr.own=m.map Tr.own
theorem ZV6(t:Tr):t.own.own=t.own:=by
 induction t using Tr.ind with
 | step o h m s k ih =>
  rw[Tr.own,Tr.own]
  congr 1
  cases k with
  | none=>rw[Tr.ownO,Tr.ownO];rfl
  | some l =>
   rw[Tr.ownO,Tr.ownO,Tr.ownL_map,Tr.ownL_map,List.map_map]
   congr 1
   exact List.map_congr_left fun t ht=>ih t (by simpa using ht)
theorem Sm.refl(x:Tr):Sm x x:=rfl
theorem Sm.self(x:Tr):Sm x.own x:=ZV6 x
theorem Sm.symm{y:Tr}(h:Sm x y):Sm y x:=Eq.symm h
theorem Sm.trans{y z:Tr}(h:Sm x y)(k:Sm y z):Sm x z:=Eq.trans h k
theorem Sm.inv{o1 h1 o2 h2:Nat}{m1 m2:Mea}{s1 s2:B8}{k1 k2:Option (List Tr)}(h:Sm (.mk o1 h1 m1 s1 k1) (.mk o2 h2 m2 s2 k2)):o1=o2/\h1=h2/\m1=m2/\s1=s2/\SmL (k1.getD []) (k2.getD []):=by
 unfold Sm at h;rw[Tr.own,Tr.own]at h;simp only[Tr.mk.injEq]at h;obtain⟨a,b,c,d,e⟩:=h;refine⟨a,b,c,d,?_⟩
 have:=congrArg (fun k=>Option.getD k []) e
 simp only[ZAy]at this;exact this
theorem Sm.h{y:Tr}(h:Sm x y):x.h=y.h:=by rw[<- Zn6 x,<- Zn6 y,h]
theorem Sm.bytes{y:Tr}(h:Sm x y):x.bytes=y.bytes:=by rw[<- J6 x,<- J6 y,h]
theorem SmL.refl(l:List Tr):SmL l l:=rfl
theorem SmL.len{l m:List Tr}(h:SmL l m):l.length=m.length:=by have:=congrArg List.length h;simpa using this
theorem SmL.app{l m l' m':List Tr}(h:SmL l m)(k:SmL l' m'):SmL (l++l') (m++m'):=by unfold SmL at *;rw[List.map_append,List.map_append,h,k]
theorem SmL.take{l m:List Tr}(h:SmL l m)(n:Nat):SmL (l.take n) (m.take n):=by unfold SmL at *;rw[List.map_take,List.map_take,h]
theorem SmL.drop{l m:List Tr}(h:SmL l m)(n:Nat):SmL (l.drop n) (m.drop n):=by unfold SmL at *;rw[List.map_drop,List.map_drop,h]
theorem SmL.cons{y:Tr}{l m:List Tr}(h:Sm x y)(k:SmL l m):SmL (x::l) (y::m):=by unfold SmL at *;rw[jC,jC,h,k]
theorem SmL.get{l m:List Tr}(h:SmL l m)(n:Nat):Sm (l[n]?.getD .zero) (m[n]?.getD .zero):=by
 have:=congrArg (fun l:List Tr=>l[n]?) h
 simp only[jG]at this
 cases e1:l[n]?<;>cases e2:m[n]?<;>rw[e1,e2]at this<;>simp at this
 ·exact .refl _
 ·exact this
theorem SmL.two{l m:List Tr}(h:SmL l m):(l=[]/\m=[])\/(∃x y,l=[x]/\m=[y]/\Sm x y)\/(2<=l.length/\2<=m.length):=by
 have hl:=h.len
 match l,m,hl,h with
 | [],[],_,_=>exact .inl ⟨rfl,rfl⟩
 | [x],[y],_,h=>exact .inr (.inl ⟨x,y,rfl,rfl,by unfold SmL at h;unfold Sm;simpa using h⟩)
 | _::_::_,_::_::_,_,_=>exact .inr (.inr ⟨by simp,by simp⟩)
theorem SmL.hs{l m:List Tr}(h:SmL l m):Tr.hs l=Tr.hs m:=by
 match l,m,h.len,h with
 | [],[],_,_=>rfl
 | x::l,y::m,_,h =>
  have:Sm x y:=by unfold SmL at h;simp only[jC,List.cons.injEq]at h;exact h.1
  exact this.h
theorem SmL.grp{l m:List Tr}(h:SmL l m):Sm (grp l) (grp m):=by
 rcases h.two with⟨rfl,rfl⟩|⟨x,y,rfl,rfl,k⟩|⟨a,b⟩
 ·exact .refl _
 ·exact k
 ·rw[ZDZ a,ZDZ b,h.hs]
  unfold Sm;rw[Tr.own,Tr.own,Tr.ownO,Tr.ownO,Tr.ownL_map,Tr.ownL_map,h]
theorem Sm.childs{y:Tr}(h:Sm x y)(N:ZJ):SmL (childs N x) (childs N y):=by
 obtain⟨o1,h1,m1,s1,k1⟩:=x;obtain⟨o2,h2,m2,s2,k2⟩:=y;obtain⟨rfl,rfl,rfl,rfl,hk⟩:=h.inv
 show SmL (if o1=0 then k1.getD [] else match lk N o1 with|some x=>x.ks.map (Yw (x.h-1))|none=>[]) (if o1=0 then k2.getD [] else match lk N o1 with|some x=>x.ks.map (Yw (x.h-1))|none=>[])
 split
 ·exact hk
 ·exact .refl _
theorem Sm.line{y:Tr}(h:Sm x y)(N:ZJ):Qf N x=Qf N y:=by
 obtain⟨o1,h1,m1,s1,k1⟩:=x;obtain⟨o2,h2,m2,s2,k2⟩:=y;obtain⟨rfl,rfl,rfl,rfl,hk⟩:=h.inv;rfl
theorem SmL.foldM{l m:List Tr}(h:SmL l m):SmL (foldM l) (foldM m):=by
 unfold Go.Q15.foldM;rw[h.len]
 split
 ·exact .cons h.grp (.refl _)
 ·exact .cons (h.take _).grp (.cons (h.drop _).grp (.refl _))
theorem Sm.leavesM{y x' y':Tr}(hx:Sm x x')(hy:Sm y y')(N:ZJ):SmL (leavesM N x y) (leavesM N x' y'):=by
 unfold Go.Q15.leavesM;rw[hx.bytes,hy.bytes,hx.line N,hy.line N]
 split
 ·exact .cons hx (.cons hy (.refl _))
 ·exact .refl _
theorem Sm.mergeF(N:ZJ):∀(n:Nat) {x y x' y':Tr},Sm x x'->Sm y y'->SmL (mergeF N n x y) (mergeF N n x' y')
 | 0,x,y,x',y',hx,hy=>hx.leavesM hy N
 | n+1,x,y,x',y',hx,hy=>by
  have lx:=(hx.childs N).len;have ly:=(hy.childs N).len;unfold Go.Q15.mergeF;rw[hx.h,hy.h,lx,ly]
  split
  ·split
   ·exact .cons (((hx.childs N).app (hy.childs N)).grp) (.refl _)
   ·exact .cons hx (.cons hy (.refl _))
  ·split
   ·exact SmL.foldM (((hx.childs N).take _).app (Sm.mergeF N n ((hx.childs N).get _) hy))
   ·exact SmL.foldM ((Sm.mergeF N n hx ((hy.childs N).get _)).app ((hy.childs N).drop _))
theorem Sm.concM{y x' y':Tr}(hx:Sm x x')(hy:Sm y y')(N:ZJ):Sm (concM N x y) (concM N x' y'):=by
 unfold Go.Q15.concM;rw[hx.bytes,hy.bytes,hx.h,hy.h]
 split
 ·exact hy
 ·split
  ·exact hx
  ·exact (Sm.mergeF N _ hx hy).grp
theorem ZsR:Tr.zero.bytes=0:=rfl
theorem Zdu(N:ZJ)(n:Nat)(t:Tr):cutF N n t 0=(.zero,t):=by cases n<;>simp[cutF]
theorem Zov(N:ZJ)(n:Nat)(t:Tr)(a:Int)(h:a=t.bytes)(h0:a≠0):cutF N n t a=(t,.zero):=by cases n<;>simp only[cutF,if_neg h0,if_pos h]
theorem Zjr(N:ZJ)(y:Tr):concM N .zero y=y:=by simp[concM,ZsR]
theorem Zow(N:ZJ){y:Tr}(h:y.bytes=0)(hx:x.bytes≠0):concM N x y=x:=by unfold concM;rw[if_neg hx,if_pos h]
def ZDc(n:Int):Pce:=⟨1,n,[]⟩
def ZVk(s:B8):Pce:=⟨2,0,s⟩
theorem Zdv(N:ZJ)(q:Tr × Tr)(n:Int):ZAG N q (ZDc n)=((concM N q.1 (cutF N q.2.h q.2 n).1.own).own,(cutF N q.2.h q.2 n).2.own):=rfl
theorem Zox(N:ZJ)(q:Tr × Tr)(s:B8):ZAG N q (ZVk s)=((concM N q.1 (QX s)).own,q.2):=rfl
theorem Zjs(N:ZJ)(t:Tr)(a:Int):Sm (ZAG N (.zero,t) (ZDc a)).1 (cutF N t.h t a).1/\Sm (ZAG N (.zero,t) (ZDc a)).2 (cutF N t.h t a).2:=by
 rw[Zdv,Zjr];exact⟨(Sm.self _).trans (Sm.self _),Sm.self _⟩
theorem Zl7(N:ZJ){q:Tr × Tr}{r:Tr}(h1:Sm q.1 d)(h2:Sm q.2 r)(n:Int)(hn:n=r.bytes)(h0:n≠0):Sm (ZAG N q (ZDc n)).1 (concM N d r):=by
 rw[Zdv,Zov N _ _ n (by rw[hn,h2.bytes]) h0]
 exact (Sm.self _).trans (Sm.concM h1 ((Sm.self _).trans h2) N)
def ZEY(n:Int):List Pce:=if 0<n then [ZDc n] else []
theorem ZsS{N:ZJ}(hN:GoodN N)(hv:VE N t)(hb:t.bytes<=60000)(h0:0<=a)(h1:a<=t.bytes)(hs:s≠[])(hs2:s.length<=2000):
 Sm (Xa N t (ZEY a++[ZVk s]++ZEY (t.bytes-a))).1 (ZBv N t a 0 s):=by
 obtain⟨b1,b2,b3⟩:=J5 hN (s:=s) (by omega)
 have hsl:0<s.length:=List.length_pos_iff.2 hs
 have c1:=Xu hN t.h t a hv rfl h0 h1 (by omega)
 have clb:=c1.lb;have crb:=c1.rb;unfold ZBv
 rw[if_neg (fun q=>hs q.2),Zdu]
 have mid:∀q:Tr × Tr,Sm q.1 (cutF N t.h t a).1->Sm q.2 (cutF N t.h t a).2->Sm (ZAG N q (ZVk s)).1 (concM N (cutF N t.h t a).1 (QX s))/\Sm (ZAG N q (ZVk s)).2 (cutF N t.h t a).2:=by
  intro q k1 k2;rw[Zox];exact⟨(Sm.self _).trans (Sm.concM k1 (.refl _) N),k2⟩
 have hfirst:Sm (Xa N t (ZEY a)).1 (cutF N t.h t a).1/\Sm (Xa N t (ZEY a)).2 (cutF N t.h t a).2:=by
  unfold ZEY
  split
  ·exact Zjs N t a
  ·have:a=0:=by omega
   subst this;rw[Zdu];exact⟨.refl _,.refl _⟩
 have hm:=mid _ hfirst.1 hfirst.2;rw[<- ZFp]at hm
 have k1:=Ym hN c1.l b1 (by rw[b3];omega)
 unfold ZEY at hm ⊢
 by_cases hr:0<t.bytes-a
 ·rw[if_pos hr,ZFp]
  exact Zl7 N hm.1 hm.2 _ (by rw[crb]) (by omega)
 ·rw[if_neg hr,lN,Zow N (by rw[crb];omega) (by rw[k1.bytes,b3];omega)]
  exact hm.1
theorem Zl8(N:ZJ)(t:Tr):∀l:List Pce,(Xa N t l).1=.zero\/(Xa N t l).1.own=(Xa N t l).1:=by
 have key:∀(l:List Pce) (q:Tr × Tr),(q.1=.zero\/q.1.own=q.1)->((l.foldl (ZAG N) q).1=.zero\/(l.foldl (ZAG N) q).1.own=(l.foldl (ZAG N) q).1):=by
  intro l
  induction l with
  | nil=>intro q h;exact h
  | cons p l ih =>
   intro q h;refine ih _ ?_;unfold ZAG
   split
   ·exact .inr (ZV6 _)
   ·split
    ·exact .inr (ZV6 _)
    ·exact h
 exact fun l=>key l _ (.inl Y)
theorem Zoy{N:ZJ}{p e:Tr}(h:Sm p e)(he:e.own=e)(hp:p=.zero\/p.own=p)(r:AR)(ro:Ro):wrV p r=wrV e r/\nw p=nw e/\Xk N ro p=Xk N ro e:=by
 rcases hp with rfl|hp
 ·have:e=Tr.zero.own:=by rw[<- he];exact h.symm
  subst this;exact⟨rfl,rfl,rfl⟩
 ·have:p=e:=by rw[<- hp,<- he];exact h
  subst this;exact⟨rfl,rfl,rfl⟩
theorem Zl9{N:ZJ}(hN:GoodN N)(hr:RtOk N ro)(t:Tr):Xm N [ro] t=Xk N ro t:=by
 unfold Xm;rw[List.flatMap_cons,List.flatMap_nil,lN];refine ZiC ?_;unfold Xk
 split
 ·exact List.nodup_nil
 ·rename_i h0
  obtain⟨x,h1,h2,h3,h4⟩:∃x,lk N ro.at_=some x/\NdOk x/\x.h=ro.h/\x.mea=ro.m:=by
   rcases hr with rfl|q
   ·exact absurd Y h0
   ·exact q.2
  exact ((Zji hN ro.h ro.at_ [] x h1 h3 ⟨List.nodup_nil,by simp⟩).1).filter _
def ZOf(a L:Int)(s:B8):List Pce:=ZEY a++[ZVk s]++ZEY (L-a)
theorem ZiR(n:Int)(h:0<=n):inL (ZEY n)=n/\Y0 (ZEY n)=n/\(∀p∈ZEY n,XJ p)/\(ZEY n).length<=1:=by
 unfold ZEY
 split
 ·refine⟨by simp[inL,inP,ZDc],by simp[Y0,ZFn,ZDc],?_,by simp⟩
  intro p hp;rw[List.mem_singleton]at hp;subst hp
  exact .inl ⟨.inl Y,by show 1<=n;omega,rfl⟩
 ·exact⟨by simp[inL];omega,by simp[Y0];omega,by simp,by simp⟩
theorem ZV7(l m:List Pce):inL (l++m)=inL l+inL m/\Y0 (l++m)=Y0 l+Y0 m:=by simp[inL,Y0]
theorem Zq7{N:ZJ}(h:Rt N ro s0)(hb:s0.length<=60000)(h0:0<=a)(h1:a<=s0.length)(hs:s≠[])(hs2:s.length<=2000):PaOk N ro s0 (ZOf a s0.length s):=by
 obtain⟨a1,a2,a3,a4⟩:=ZiR a h0
 obtain⟨b1,b2,b3,b4⟩:=ZiR (s0.length-a) (by omega)
 have p1:inL [ZVk s]=0/\Y0 [ZVk s]=s.length:=by simp[inL,Y0,inP,ZFn,ZVk]
 have hi:inL (ZOf a s0.length s)=s0.length:=by unfold ZOf;rw[(ZV7 _ _).1,(ZV7 _ _).1,a1,b1,p1.1];omega
 have ho:Y0 (ZOf a s0.length s)=s0.length+s.length:=by unfold ZOf;rw[(ZV7 _ _).2,(ZV7 _ _).2,a2,b2,p1.2];omega
 refine⟨h,⟨fun p hp=>?_,?_,by omega,by omega⟩,hi,by omega,hb⟩
 ·unfold ZOf at hp
  simp only[List.mem_append,List.mem_singleton]at hp
  rcases hp with (hp|rfl)|hp
  ·exact a3 p hp
  ·exact .inr ⟨rfl,rfl,hs⟩
  ·exact b3 p hp
 ·unfold ZOf;simp only[lL,List.length_singleton];omega
theorem ZmA{r:AR}(hg:GoodN r.nodes)(h:Rt r.nodes ro s0)(hb:s0.length<=60000)(h0:0<=a)(h1:a<=s0.length)(hs:s≠[])(hs2:s.length<=2000):
 wrV (ZaO r.nodes ro (ZOf a s0.length s)) r=wrV (edV r.nodes ro a 0 s) r/\nw (ZaO r.nodes ro (ZOf a s0.length s))=nw (edV r.nodes ro a 0 s) /\
  Xk r.nodes ro (ZaO r.nodes ro (ZOf a s0.length s))=Xm r.nodes [ro] (edV r.nodes ro a 0 s):=by
 have hkb:=(h.b hg).1
 have hsm:=ZsS hg h.keep.1 (by omega) h0 (by omega) hs hs2
 rw[hkb]at hsm;obtain⟨w1,w2,w3⟩:=Zoy (N:=r.nodes) (p:=ZaO r.nodes ro (ZOf a s0.length s)) (e:=edV r.nodes ro a 0 s) (hsm.trans (Sm.self _).symm) (ZV6 _) (Zl8 _ _ _) r ro
 exact⟨w1,w2,by rw[w3,Zl9 hg h.rt]⟩
theorem ZmB{l:List Pce}(hl:DlOk l):
 S Tb ZBQ [.lit (l.map Pce.av)] st=some (.tup [.int .i64 (inL l),.int .i64 (Y0 l),.int .i64 0],st):=by
 refine QK Y (fun A hA=>?_)
 have hn:=hl.n;have hi:=hl.i;have ho:=hl.o
 repeat'(first|refine XH Y ?_|refine ZE ?_|refine ZD ?_|refine ZG Y ?_|refine ZB Y ?_|refine ZC ?_|(refine cm0 Y Y Y ?_ ?_<;>intro _<;>try omega)|refine ZH Y ?_|refine ZI ?_|refine ZL ?_)
 all_goals try omega
 refine Z2 (α:=Nat) (fun i=>[(2,.int .i64 (inL (l.take i))),(3,.int .i64 (Y0 (l.take i))),(12,.lit (l.map Pce.av)),(13,.int .i64 l.length),(14,.int .i64 i)]) (fun i=>⟨A,false,(l.take i).map fun p=>Blk.arr 3 0 [p.av]⟩) (fun i=>i<=l.length) (fun i=>l.length-i) 0 Y Y (by omega) ?_
 rintro i hi'
 rcases Nat.lt_or_ge i l.length with hlt|hge
 ·obtain⟨p,hp⟩:∃x,l[i]?=some x:=⟨l[i]'hlt,jE _⟩
  have hpm:=jM hp
  have q:0<=((i:Nat):Int)/\l[((i:Nat):Int).toNat]?=some p:=⟨by omega,by rw[show ((i:Nat):Int).toNat=i by omega];exact hp⟩
  have hV:=fun L=>Zom p ⟨A,false,L⟩
  rw[decide_eq_true (hl.v p hpm)]at hV
  have hS:=fun L=>Zon p (hl.text hpm) ⟨A,false,L⟩
  obtain⟨p1,p2⟩:=Zoo (hl.v p hpm);have ht:l.take (i+1)=l.take i++[p]:=Zb hp
  have hi2:inL (l.take (i+1))=inL (l.take i)+inP p/\Y0 (l.take (i+1))=Y0 (l.take i)+ZFn p:=by rw[ht];simp[inL,Y0]
  obtain⟨n1,n2⟩:=ZIl (l:=l.take i) fun q hq=>hl.v q (List.mem_of_mem_take hq)
  obtain⟨n3,n4⟩:=ZIl (l:=l.drop (i+1)) fun q hq=>hl.v q (List.mem_of_mem_drop hq)
  obtain⟨s1,s2⟩:=ZI7 l (i+1)
  generalize hB:(l.take i).map (fun p=>Blk.arr 3 0 [p.av])=B
  generalize inL (l.take i)=x at *
  generalize Y0 (l.take i)=y at *
  repeat'(first|refine JD (f:=Pce.av) Y Y q (fun _=>rfl) ?_|refine is_stP Y Y ?_|refine Zop Y ?_|refine ZE ?_|refine ZD ?_|refine ZG Y ?_|refine QE Y ?_|refine Zo Y Y Y Y ?_|refine Zs Y Y ?_|refine ZB Y ?_|refine ZC ?_|refine QH Y Y ?_|(refine cm0 Y Y Y ?_ ?_<;>intro _<;>try omega)|refine ZW Y ?_|refine ZH Y ?_|refine JC Y Y ?_|refine Zm Y Y (by omega) ?_|refine Jw Y Y (by omega) ?_|refine Zx Y Y Y ?_|refine ZA Y Y Y (hV _) ?_|refine ZA Y Y Y (hS _) ?_|refine ZI ?_|refine ZL ?_|refine Zz ?_|refine QD ?_)
  all_goals try omega
  all_goals try contradiction
  all_goals refine⟨i+1,⟨?_,?_⟩,by omega,by omega⟩
  ·rw[hi2.1,hi2.2];rfl
  ·rw[ht,List.map_append,hB];rfl
 ·obtain rfl:i=l.length:=by omega
  rw[List.take_length]
  repeat'(first|refine ZE ?_|refine ZD ?_|refine ZG Y ?_|refine ZB Y ?_|refine ZC ?_|(refine cm0 Y Y Y ?_ ?_<;>intro _<;>try omega)|refine ZH Y ?_|refine ZQ ?_|refine Zv ?_|refine ZO ?_|refine Zf ?_|refine Zc Y ?_|refine Zu ?_)
  all_goals try omega
  refine Zi hA (by simp) Y Y Y Y ?_
  rfl
theorem Zq8{b:Nat}{r:AR}(hA:Has st la b r)(ho:AROk r)(hg:GoodN r.nodes){l:List Pce}(h:PaOk r.nodes ro s0 l)(hn:nw (ZaO r.nodes ro l)<=r.n):
 S Tb ZA2 [.ptr la (b+5) 0 0 0,ro.av,.lit (l.map Pce.av)] st=some (.tup [XV (wrV (ZaO r.nodes ro l) r).2.1 (wrV (ZaO r.nodes ro l) r).2.2 (.lit ((Xk r.nodes ro (ZaO r.nodes ro l)).map QB)),.int .i64 0],Qe st la b (wrV (ZaO r.nodes ro l) r).1):=by
 unfold ZaO at *
 refine ZAc Y (fun A hA'=>?_)
 have hlv:=hA.le
 have hRO:∀L,RdO ⟨A,false,L⟩ la (b+5) r.nodes [(A.length,3)]:=fun L=>by
  have h5:=ZX hA' (ro:=false) (L:=L) hA.h5;have h4:=ZX hA' (ro:=false) (L:=L) hA.h4
  have hal:A.length=st.A.length+1:=by rw[hA'];simp
  refine⟨_,_,_,_,_,_,h5,h4,?_,?_⟩<;>simp only[List.mem_cons,jP,List.not_mem_nil,or_false]<;>omega
 have hRd:=fun L=>(hA.r.push hA' (ro:=false) (L:=L)).rd
 have hK:=fun L=>ZOU (hRd L) h.rt.rt
 have hLen:=fun L=>ZmB (st:=⟨A,false,L⟩) h.dl
 have hin:=h.i;have hb:=h.b;have hout:=h.o;have hmb:ro.m.b=s0.length:=(h.rt.b hg).2;have hkb:=(h.rt.b hg).1;have hkv:=h.rt.keep.1
 have hpl:=fun i=>ZiQ hg hkv (by omega) h.dl.v (by rw[hkb,h.i];omega) h.o i
 have hdl:=h.dl;obtain⟨ra,rh,rm⟩:=ro;obtain⟨mb,mr,ml⟩:=rm
 simp only at hmb
 unfold Ro.av at *
 simp only at *
 generalize YF ⟨ra,rh,⟨mb,mr,ml⟩⟩=kt at *
 repeat'(first|refine XH Y ?_|refine Zl6 Y Y ?_|refine Zx Y (ZsQ _ _ _ _) (Zq6 _ _ _ _) ?_|refine ZE ?_|refine ZD ?_|refine ZG Y ?_|refine ZU Y Y ?_|refine ZP Y Y Y Y ?_|refine Zs Y Y ?_|refine ZB Y ?_|refine ZC ?_|(refine cm0 Y Y Y ?_ ?_<;>intro _<;>try omega)|(refine cm0 Y Y Y ?_ ?_<;>intro _<;>try omega)|refine ZH Y ?_|refine Ze Y Y Y ?_|refine ZA Y Y (by first|rfl|(simp only[lE,lN,lC,ZY,ZS,ZV];first|done|rfl)) (hK _) ?_|refine ZA Y Y (by first|rfl|(simp only[lE,lN,lC,ZY,ZS,ZV];first|done|rfl)) (hLen _) ?_|refine ZP Y Y Y (Zk _) ?_|refine Zr Y Y Y (Z7 _ _ _) (QQ _ _) Y ?_|refine ZI ?_|refine ZL ?_|refine Zz ?_)
 all_goals try omega
 all_goals try contradiction
 refine Z2 (α:=Nat) (fun i=>[(0,.ptr la (b+5) 0 0 0),(4,.ptr A.length 0 0 0 0),(6,.ptr A.length 1 0 0 0),(12,.ptr A.length 3 0 0 0),(55,.lit (l.map Pce.av)),(56,.int .i64 l.length),(57,.int .i64 i)])
  (fun i=>⟨A,false,.arr 5 0 [.agg [.int .u64 ra,.int .i64 rh,.int .i64 mb,.int .i64 mr,.int .i64 ml]]::.arr 7 0 [chZ]::.arr 7 0 [kt.av]::wB la b (Xa r.nodes kt (l.take i)).1 (Xa r.nodes kt (l.take i)).2::(l.take i).map fun p=>Blk.arr 3 0 [p.av]⟩) (fun i=>i<=l.length) (fun i=>l.length-i) 0 rfl rfl (by omega) ?_
 rintro i hi'
 have hn4:=hdl.n
 rcases Nat.lt_or_ge i l.length with hlt|hge
 ·obtain⟨p,hp⟩:∃x,l[i]?=some x:=⟨l[i]'hlt,jE _⟩
  have hpm:=jM hp
  have q:0<=((i:Nat):Int)/\l[((i:Nat):Int).toNat]?=some p:=⟨by omega,by rw[show ((i:Nat):Int).toNat=i by omega];exact hp⟩
  have ht:l.take (i+1)=l.take i++[p]:=Zb hp;obtain⟨s1,s2⟩:=ZI7 l (i+1)
  obtain⟨n1,n2⟩:=ZIl (l:=l.drop (i+1)) fun q hq=>hdl.v q (List.mem_of_mem_drop hq)
  rw[ht]at s1 s2
  have hP:=fun L (H:Cl ⟨A,false,L⟩ [(A.length,3)] [wB la b (Xa r.nodes kt (l.take i)).1 (Xa r.nodes kt (l.take i)).2])=>Zq5 H (hRO L) hg (hpl i) (fun q hq=>hdl.v q (List.mem_of_mem_take hq)) (hdl.v p hpm) (by omega) (by omega) (by omega)
  have hst:Xa r.nodes kt (l.take (i+1))=ZAG r.nodes (Xa r.nodes kt (l.take i)) p:=by rw[ht,ZFp]
  generalize ZAG r.nodes (Xa r.nodes kt (l.take i)) p=q2 at *
  generalize Xa r.nodes kt (l.take i)=q1 at *
  have hP2:∀(b0 b1 b2:Blk) (T:List Blk),S Tb Q1 [.ptr A.length 3 0 0 0,p.av] ⟨A,false,b0::b1::b2::wB la b q1.1 q1.2::T⟩=some (.int .i64 0,⟨A,false,b0::b1::b2::wB la b q2.1 q2.2::T⟩):=by
   intro b0 b1 b2 T
   rw[hP _ ⟨by simp,rfl,fun k hk=>?_,fun j lv ix c h1 h2=>?_⟩,Zsx]
   ·rfl
   ·simp only[List.mem_cons,List.not_mem_nil,or_false]at hk
    subst hk
    simp[St.wr]
   ·match j,h1,h2 with
    | 0,h1,h2 =>
     simp only[List.getElem?_cons_zero,oJ,jP]at h1 h2;obtain⟨rfl,rfl⟩:=h1;subst h2;simp only[St.get,if_true];rfl
  generalize hB:(l.take i).map (fun p=>Blk.arr 3 0 [p.av])=B
  repeat'(first|refine JD (f:=Pce.av) Y Y q (fun _=>rfl) ?_|refine is_stP Y Y ?_|refine Zop Y ?_|refine ZE ?_|refine ZD ?_|refine ZG Y ?_|refine ZB Y ?_|refine ZC ?_|refine QH Y Y ?_|(refine cm0 Y Y Y ?_ ?_<;>intro _<;>try omega)|refine ZW Y ?_|refine ZH Y ?_|refine Zm Y Y (by omega) ?_|refine Zx Y Y Y ?_|refine ZA Y Y Y (hP2 _ _ _ _) ?_|refine ZI ?_|refine ZL ?_|refine Zz ?_|refine QD ?_)
  all_goals try omega
  all_goals try contradiction
  refine⟨i+1,⟨rfl,?_⟩,by omega,by omega⟩
  rw[hst,ht,List.map_append,hB];rfl
 ·obtain rfl:i=l.length:=by omega
  have hf:=hpl l.length;rw[List.take_length]at hf ⊢;have hv:=hf.d;have htb:=hf.db
  have hDr:=fun L=>Zdq hg ho.lv ho.nz (hRd L) h.rt.rt hv (by omega)
  have hWr:=fun L=>ZVw (hA.push hA' (ro:=false) (L:=L)) ho hg hv (by omega) hn
  simp only[ZAF hA' hlv]at hWr
  generalize (Xa r.nodes kt l).2=rest at *
  generalize (Xa r.nodes kt l).1=t at *
  have hAl:A.length=((Qe st la b (wrV t r).1).ps).length:=by rw[hA'];simp[ZFf]
  generalize (wrV t r).2.1=ro2 at *
  generalize (wrV t r).2.2=fr at *
  obtain⟨A2,hA2⟩:∃A2,A2=(Qe st la b (wrV t r).1).ps:=⟨_,rfl⟩;rw[<- hA2]at hWr hAl;unfold Ro.av at hDr
  simp only at hDr
  generalize Xk r.nodes ⟨ra,rh,⟨mb,mr,ml⟩⟩ t=dd at *
  obtain⟨ra2,rh2,rm2⟩:=ro2;unfold Ro.av at hWr
  simp only at hWr
  generalize (l.map fun p=>Blk.arr 3 0 [p.av])=B at *
  have w1:=ZV5 la b t rest
  unfold chZ at *
  repeat'(first|refine ZP Y Y Y w1 ?_|refine ZE ?_|refine ZD ?_|refine ZG Y ?_|refine ZU Y Y ?_|refine ZP Y Y Y Y ?_|refine Zs Y Y ?_|refine ZB Y ?_|refine ZC ?_|refine Z5 Y Y ?_|(refine cm0 Y Y Y ?_ ?_<;>intro _<;>try omega)|(refine cm0 Y Y Y ?_ ?_<;>intro _<;>try omega)|refine ZH Y ?_|refine ZA Y Y (by first|rfl|(simp only[lE,lN,lC,ZY,ZS,ZV];first|done|rfl)) (hDr _) ?_|refine ZI ?_|refine Zv ?_|refine Zf ?_|refine Zc Y ?_|refine Zu ?_)
  all_goals try omega
  all_goals try contradiction
  repeat'(first|refine ZE ?_|refine ZD ?_|refine ZG Y ?_|refine Zs Y Y ?_|refine ZB Y ?_|refine ZC ?_|refine Qr Y Y Y ?_|(refine cm0 Y Y Y ?_ ?_<;>intro _<;>try omega)|refine ZH Y ?_|refine Zq Y Y Y ?_|refine Zx Y Y Y ?_|refine YA Y Y Y Y Y Y ?_|refine ZA Y Y (by first|rfl|(simp only[lE,lN,lC,ZY,ZS,ZV];first|done|rfl)) (hWr _) ?_|refine ZI ?_)
  rw[hAl]
  repeat'(first|refine ZG Y ?_|refine ZB Y ?_|refine ZC ?_|refine Q0 Y Y Y Y Y Y ?_|refine ZQ ?_|refine ZO ?_)
  all_goals try contradiction
  exact ZIi (v:=XV ⟨ra2,rh2,rm2⟩ fr (.lit (dd.map QB))) (w:=XV ⟨ra2,rh2,rm2⟩ fr (.lit (dd.map QB))) hA2 (.inr Y) Y Y Y Y Y Y
theorem ZmC(A:List (Bool × List Blk)):S Tb YJ [] ⟨A,false,[]⟩=some (.tup [.ptr A.length 6 0 0 0,exURo.av,.bool true],⟨A,false,[.arr 5 0 [exURo.av]]++(arB A.length 1 exUR++[.arr 5 0 [exURo.av]])⟩):=by
 have hN:=ZkU 8 4 (by omega) (by omega) A [.arr 5 0 [Ro.zero.av]]
 have h1:=Zkk (XU A [.arr 5 0 [Ro.zero.av]] [] (JH 8 4)) (ZaC 8 4 (by omega) (by omega)) ZOJ exU (by decide) (by rw[ZoY];decide)
 rw[ZOZ,ZoX]at h1
 change S Tb ZCj [.ptr A.length 6 0 0 0,.str exU] ⟨A,false,_⟩=some (_,⟨A,false,[.arr 5 0 [Ro.zero.av]]++(arB A.length 1 exUR++[])⟩) at h1
 refine ZAM Y ?_
 repeat'(first|refine ZE ?_|refine ZD ?_|refine ZG Y ?_|refine QE Y ?_|refine Zo Y Y Y Y ?_|refine Zs Y Y ?_|refine ZB Y ?_|refine ZC ?_|(refine cm0 Y Y Y ?_ ?_<;>intro _<;>try omega)|refine ZH Y ?_|refine Ju Y Y Y Y ?_|refine Ze Y Y Y ?_|refine ZA Y Y Y (hN) ?_|refine ZI ?_)
 all_goals try first|contradiction|omega
 unfold exU at h1;refine ZA Y Y Y h1 ?_
 change Is _ _ _ _ _ _ ⟨A,false,[.arr 5 0 [Ro.zero.av],exUR.b0,exUR.b1,exUR.b2,exUR.b3 A.length 1,exUR.b4,exUR.b5 A.length 1]⟩
 generalize hb0:exUR.b0=b0 at *
 generalize hb1:exUR.b1=b1 at *
 generalize hb2:exUR.b2=b2 at *
 generalize hb3:exUR.b3 A.length 1=b3 at *
 generalize hb4:exUR.b4=b4 at *
 generalize hb5:exUR.b5 A.length 1=b5 at *
 repeat'(first|refine ZI3 Y Y Y Y Y Y ?_|refine ZFd Y Y Y Y Y Y Y ?_|refine ZE ?_|refine ZD ?_|refine ZG Y ?_|refine ZU Y Y ?_|refine ZP Y Y Y Y ?_|refine QE Y ?_|refine Zo Y Y Y Y ?_|refine Zs Y Y ?_|refine ZB Y ?_|refine ZC ?_|(refine cm0 Y Y Y ?_ ?_<;>intro _<;>try omega)|refine Ze Y Y Y ?_|refine Zr Y Y Y Y Y Y ?_|refine ZQ ?_|refine ZO ?_)
 all_goals first|exact absurd Y ‹_›|(refine (Zri (.inr Y) Y Y Y Y Y).trans ?_;subst hb0 hb1 hb2 hb3 hb4 hb5;rfl)
theorem ZmD{T:Tab}{g:FuncId}{ws:LV}{L L':List Blk}{v v':AV}(hc:S T g ws ⟨A++[(false,L)],false,[]⟩=some (v,⟨A++[(false,L')],false,[]⟩))
 (hs:ZZ QF (A++[(false,L')]).length ⟨A++[(false,L')],false,[]⟩ v=some (v',⟨A++[(false,L')],false,[]⟩)):Qg (S T) .inner g ws ⟨A,false,L⟩=some (v',⟨A,false,L'⟩):=by
 simp only[Qg,St.push,hc,oS,ZEc,ZAJ];rw[hs];simp only[oS,JV,ZCa,ZI9]
theorem ZiS(n:Int)(st:St):S Tb Yc [.int .i64 n] st=some ((ZDc n).av,st):=by
 refine QK Y (fun A hA=>?_)
 repeat'(first|refine ZE ?_|refine ZD ?_|refine ZG Y ?_|refine ZB Y ?_|refine ZC ?_|refine Zq Y Y Y ?_|refine Ze Y Y Y ?_|refine Zr Y Y Y Y Y Y ?_|refine ZQ ?_|refine ZO ?_)
 refine XW hA (by simp) Y Y Y Y Y ?_
 all_goals rfl
theorem Zq9(s:B8)(st:St):S Tb ZAP [.str s] st=some ((ZVk s).av,st):=by
 refine QK Y (fun A hA=>?_)
 repeat'(first|refine ZE ?_|refine ZD ?_|refine ZG Y ?_|refine ZB Y ?_|refine ZC ?_|refine Zq Y Y Y ?_|refine Ze Y Y Y ?_|refine Zr Y Y Y Y Y Y ?_|refine ZQ ?_|refine ZO ?_)
 refine XW hA (by simp) Y Y Y Y Y ?_
 all_goals rfl
theorem Zsy:ZOf 9 17 [120,121,122]=[ZDc 9,ZVk [120,121,122],ZDc 8]:=by rfl
theorem Zsz:Zn1 (wrV (edV exUR.nodes exURo 9 0 [120,121,122]) exUR).1.nodes exURo (wrV (edV exUR.nodes exURo 9 0 [120,121,122]) exUR).2.1=4:=by
 unfold exUR;rw[ZEV];rfl
theorem ZgE{k:List Fr}{Q:J0}{e:Env}{keep:List Nat}{is:List QAbs.PI}{d:Nat}{T:Tab}{f:Opd}{args:List Opd}{g:FuncId}{first cap vs ws:LV}(hf:Zd e f=some (.func (.func g) first cap))(ha:ZD0 e args=some vs)(hw:ZV (ZY (first++vs++cap))=some ws)
 (hc:∀st,S T g ws st=some (p.av,st)) (h:Is (S T) is keep k Q ((d,p.av)::e) st):Is (S T) (⟨some d,none,false,.call .pin f args⟩::is) keep k Q e st:=by
 refine Z3 (v:=p.av) (st':=st) ?_ h;have hi:Qg (S T) .inner g ws st.allRo=some (p.av,st.allRo):=ZnK (st:=st.allRo) (hc _) rfl;have hi2:(S T g ws st.allRo.push).bind ZEc=some (p.av,st.allRo):=hi;simp only[Zg,ZF hf,YZ ha,ZAK,JG hw,Qg,hi2,oS,QR]
theorem ZSS(j:Nat):∀L:List Blk,findH j (L++[Blk.hole j])=some L.length
 | []=>by simp[findH]
 | b::L=>by simp only[lC,findH,ZSS j L,List.length_cons]
section
variable {O:Orc}{k:List Fr}{Q:J0}{e:Env}{A:List (Bool × List Blk)}{L L0 T T':List Blk}{keep:List Nat}{is:List QAbs.PI}{d:Nat}
theorem Zoz{js:List Nat}(hL:Jz (T++js.map Blk.hole)=some T')(h:Is O is keep k Q e ⟨A,false,L0++T'⟩):Ru O (.regH js keep is) k Q e ⟨A,false,L0++T⟩:=by
 rw[<- Qn hL,<- List.append_assoc]at h;exact ZkS h
theorem ZrA{z1 z2 z3 v1 v2 v3:AV}{x1 x2 x3:Opd}(h1:Zd e x1=some v1)(h2:Zd e x2=some v2)(h3:Zd e x3=some v3)(w1:v1.wide=some w)(w2:v2.wide=some w)(w3:v3.wide=some w)(i1:imm 6 v1=true)(i2:imm 6 v2=true)(i3:imm 6 v3=true)(h:Is O is keep k Q ((d,.lit [v1,v2,v3])::e) st):
 Is O (⟨some d,none,false,.w .imm (.bslice false w [z1,z2,z3] [(0,x1),(1,x2),(2,x3)])⟩::is) keep k Q e st:=by
 refine Z3 (od:=some d) (v:=.lit [v1,v2,v3]) (st':=st) ?_ h
 have hf:fillE w [z1,z2,z3] [(0,v1),(1,v2),(2,v3)]=some [v1,v2,v3]:=by simp[fillE,w1,w2,w3]
 simp only[Zg,QC,ZgN,JU,ZF h1,ZF h2,ZF h3,hf,oS,ZWE,List.all_cons,List.all_nil,i1,i2,i3,Bool.and_self,if_true,List.isEmpty_cons,jB,if_false]
theorem ZiT{j:Nat}{x:Opd}{v:AV}{L1:List Blk}(hx:Zd e x=some v)(hw:v.wide=some w)(h:Is O is keep k Q ((d,.ptr A.length L1.length 0 0 0)::e) ⟨A,false,L1++[Blk.arr w 0 [v]]⟩):
 Is O (⟨some d,none,false,.w (.here j) (.box x)⟩::is) keep k Q e ⟨A,false,L1++[Blk.hole j]⟩:=by
 have hf:findH j (L1++[Blk.hole j])=some L1.length:=ZSS j L1;refine Z3 (v:=.ptr A.length L1.length 0 0 0) (st':=⟨A,false,L1++[Blk.arr w 0 [v]]⟩) ?_ h;simp only[Zg,QC,newOf,ZF hx,hw,oS,ZWD,ZgM,and_self,if_true,hf,ZWC]
 simp
end
theorem ZmE(st:St):S TV JE [] st=some (.bool true,st):=by
 refine QK Y (fun A hA=>?_)
 obtain⟨o1,o2,o3⟩:=exU_ok;have hS:=upV (up3 (ZmC A))
 have hP:=Zq7 o3 (by decide) (a:=9) (by decide) (by decide) (s:=[120,121,122]) (by decide) (by decide)
 have al:=ZmA (r:=exUR) o2 o3 (by decide) (a:=9) (by decide) (by decide) (s:=[120,121,122]) (by decide) (by decide)
 obtain⟨a1,a2,a3⟩:=al;have e17:((exU.length:Nat):Int)=17:=rfl;rw[e17]at hP a1 a2 a3
 have hn:nw (ZaO exUR.nodes exURo (ZOf 9 17 [120,121,122]))<=exUR.n:=by rw[a2];exact Zkq
 obtain⟨v1,v2,v3⟩:=exU_edOk.ok o2
 obtain⟨w1,w2⟩:=ZaB (r:=exUR) (XU [] [] [] _) o1 o2 v1 (by rw[v2];decide) Zkq
 have hI:=fun T=>Zq8 (st:=⟨A++[(false,[.arr 5 0 [exURo.av]]++(arB A.length 1 exUR++T))],false,[]⟩) ((XU A [.arr 5 0 [exURo.av]] T exUR).push (A:=A++[(false,[.arr 5 0 [exURo.av]]++(arB A.length 1 exUR++T))]) rfl) o1 o2 hP hn
 rw[a1,a3]at hI
 have hl:(ZOf 9 17 [120,121,122]).map Pce.av=[(ZDc 9).av,(ZVk [120,121,122]).av,(ZDc 8).av]:=by rw[Zsy];rfl
 rw[hl]at hI
 have hV:=fun hx T=>Zdl (x:=exURo) w1.good (XU A [.arr 5 0 [exURo.av]] T (wrV (edV exUR.nodes exURo 9 0 [120,121,122]) exUR).1).r.rd hx w2.rt
 rw[Zsz]at hV
 generalize Xm exUR.nodes [exURo] (edV exUR.nodes exURo 9 0 [120,121,122])=dd at *
 generalize edV exUR.nodes exURo 9 0 [120,121,122]=t at *
 generalize (wrV t exUR).2.2=fr at *
 generalize (wrV t exUR).2.1=r2 at *
 generalize (wrV t exUR).1=R2 at *
 have hI2:∀T,Qg (S TV) .inner ZA2 [.ptr A.length 6 0 0 0,exURo.av,.lit [(ZDc 9).av,(ZVk [120,121,122]).av,(ZDc 8).av]] ⟨A,false,.arr 5 0 [exURo.av]::exUR.b0::exUR.b1::exUR.b2::exUR.b3 A.length 1::exUR.b4::exUR.b5 A.length 1::T⟩ =
  some (.tup [XV r2 fr (.lit (dd.map QB)),.int .i64 0],⟨A,false,.arr 5 0 [exURo.av]::R2.b0::R2.b1::R2.b2::R2.b3 A.length 1::R2.b4::R2.b5 A.length 1::T⟩):=fun T=>by
  have h:=upV (up3 (hI T));have ep:=ZAF (st:=⟨A,false,[.arr 5 0 [exURo.av]]++(arB A.length [Blk.arr 5 0 [exURo.av]].length exUR++T)⟩) (A:=A++[(false,[.arr 5 0 [exURo.av]]++(arB A.length [Blk.arr 5 0 [exURo.av]].length exUR++T))]) (ro:=false) (L:=[]) (lv:=A.length) (b:=[Blk.arr 5 0 [exURo.av]].length) rfl (Nat.le_refl _) (r':=R2);have e:=ZOZ A [.arr 5 0 [exURo.av]] T exUR R2;rw[e]at ep
  have h2:=h.trans (congrArg (fun s=>some (AV.tup [XV r2 fr (.lit (dd.map QB)),.int .i64 0],s)) ep)
  exact ZmD h2 (by rfl)
 have hxo:=o3.rt.ext w1.ext;have hV2:=hV hxo
 change ∀T,S TV Jf [.ptr A.length 6 0 0 0,exURo.av,r2.av] ⟨A,false,.arr 5 0 [exURo.av]::R2.b0::R2.b1::R2.b2::R2.b3 A.length 1::R2.b4::R2.b5 A.length 1::T⟩=some (_,⟨A,false,.arr 5 0 [exURo.av]::R2.b0::R2.b1::R2.b2::R2.b3 A.length 1::R2.b4::R2.b5 A.length 1::T⟩) at hV2
 change S TV YJ [] ⟨A,false,[]⟩=some (_,⟨A,false,.arr 5 0 [exURo.av]::exUR.b0::exUR.b1::exUR.b2::exUR.b3 A.length 1::exUR.b4::exUR.b5 A.length 1::[.arr 5 0 [exURo.av]]⟩) at hS
 clear hI hV hP hn a1 a2 a3 v1 v2 v3
 generalize exUR.b0=b0 at *
 generalize exUR.b1=b1 at *
 generalize exUR.b2=b2 at *
 generalize exUR.b3 A.length 1=b3 at *
 generalize exUR.b4=b4 at *
 generalize exUR.b5 A.length 1=b5 at *
 generalize R2.b0=c0 at *
 generalize R2.b1=c1 at *
 generalize R2.b2=c2 at *
 generalize R2.b3 A.length 1=c3 at *
 generalize R2.b4=c4 at *
 generalize R2.b5 A.length 1=c5 at *
 obtain⟨x1,x2,x3⟩:=r2;unfold XV at hI2
 unfold exURo Ro.av at *
 have hk9:=fun st=>upV (up3 (ZiS 9 st))
 have hk8:=fun st=>upV (up3 (ZiS 8 st))
 have hpu:=fun st=>upV (up3 (Zq9 [120,121,122] st))
 repeat'(first|refine ZE ?_|refine ZD ?_|refine ZG Y ?_|refine Zs Y Y ?_|refine ZB Y ?_|refine ZC ?_|refine ZH Y ?_|refine JC Y Y ?_|refine Ze Y Y Y ?_|refine Zr Y Y Y Y Y Y ?_|refine ZA Y Y Y (hS) ?_|refine ZI ?_)
 all_goals try contradiction
 refine Zoz (L0:=[]) Y ?_;simp only[lE,List.length_cons,List.length_nil,Nat.zero_add,Nat.reduceAdd];refine ZG Y ?_;refine ZP Y Y Y Y ?_;refine ZgE Y Y Y hk9 ?_;refine ZgE Y Y Y hpu ?_;refine ZgE Y Y Y hk8 ?_;refine ZrA Y Y Y Y Y Y Y Y Y ?_;refine ZnJ Y Y Y (hI2 _) ?_
 repeat'(first|refine ZiT (L1:=[_,_,_,_,_,_,_,_,_]) Y Y ?_|refine ZE ?_|refine ZD ?_|refine ZG Y ?_|refine ZU Y Y ?_|refine ZP Y Y Y Y ?_|refine QE Y ?_|refine Zo Y Y Y Y ?_|refine Zs Y Y ?_|refine ZB Y ?_|refine ZC ?_|(refine cm0 Y Y Y ?_ ?_<;>intro _<;>try omega)|refine YA Y Y Y Y Y Y ?_|refine ZA Y Y Y (hV2 _) ?_|refine ZQ ?_|refine ZO ?_)
 all_goals try contradiction
 all_goals refine Zi hA (by simp) Y Y Y Y ?_
 all_goals rfl
def arL(L:List Blk)(n b:Nat)(r:AR):List Blk:=(((((L.set b r.b0).set (b+1) r.b1).set (b+2) r.b2).set (b+3) (r.b3 n b)).set (b+4) r.b4).set (b+5) (r.b5 n b)
theorem Zo0(A:List (Bool × List Blk))(L:List Blk)(b:Nat)(r:AR):Qe ⟨A,false,L⟩ A.length b r=⟨A,false,arL L A.length b r⟩:=by
 simp[Qe,arK,arB,Qp,St.upd,arL]
theorem ZsT{L:List Blk}{n b:Nat}(r:AR)(h:¬ (b<=i/\i<=b+5)):(arL L n b r)[i]?=L[i]?:=by
 unfold arL
 rw[jS (by omega),jS (by omega),jS (by omega),jS (by omega),jS (by omega),jS (by omega)]
theorem ZrB{L:List Blk}{n b:Nat}(r:AR):(arL L n b r).length=L.length:=by simp[arL]
theorem Has.frmL{L L':List Blk}{b:Nat}{r:AR}(h:Has ⟨A,false,L⟩ A.length b r)(hg:∀i,b<=i->i<=b+5->L'[i]?=L[i]?):Has ⟨A,false,L'⟩ A.length b r:=by
 have e:∀i,b<=i->i<=b+5->St.get ⟨A,false,L'⟩ A.length i=St.get ⟨A,false,L⟩ A.length i:=fun i h1 h2=>by rw[St.get_cur,St.get_cur,hg i h1 h2]
 exact⟨by simp[St.wr],(e _ (by omega) (by omega)).trans h.h0,(e _ (by omega) (by omega)).trans h.h1,(e _ (by omega) (by omega)).trans h.h2,(e _ (by omega) (by omega)).trans h.h3,(e _ (by omega) (by omega)).trans h.h4,(e _ (by omega) (by omega)).trans h.h5⟩
theorem ZaP{ro:Bool}{L:List Blk}{b:Blk}(h:St.get ⟨A,ro,L⟩ A.length i=some b):i<L.length:=by
 rw[St.get_cur]at h;exact (List.getElem?_eq_some_iff.1 (ZA6 h).1).1
theorem Has.app{L:List Blk}{b:Nat}{r:AR}(h:Has ⟨A,false,L⟩ A.length b r)(T:List Blk):Has ⟨A,false,L++T⟩ A.length b r :=
 h.frmL fun i h1 h2=>by
  have:=ZaP h.h5
  rw[jL (by omega)]
theorem Zcq{f:FuncId}{args:LV}{r:AV × St}(h:S Tb f args st=some r):S TW f args st=some r:=upW (upV (up3 h))
section
variable {O:Orc}{k:List Fr}{Q:J0}{e:Env}{keep:List Nat}{is:List QAbs.PI}{d:Nat}
theorem ZmF{x y:Opd}{a:Nat}(hx:Zd e x=some (.int .u64 a))(hy:Zd e y=some (.int .u64 65536))(h:Is O is keep k Q ((d,.int .u64 ((a % 65536:Nat):Int))::e) st):Is O (⟨some d,none,false,.bin .rem x y⟩::is) keep k Q e st:=by
 refine ZO1 hx hy ?_ h
 show (if (65536:Int)=0 then none else some (AV.int .u64 ((a:Int).tmod 65536)))=_
 rw[if_neg (by decide),Int.tmod_eq_emod_of_nonneg (by omega)]
 rfl
end
theorem Zo1{r:AR}(h:AROk r){o1 o2:Nat}{x1 x2:Nd}(h1:lk r.nodes o1=some x1)(h2:lk r.nodes o2=some x2)(e:o1 % 65536=o2 % 65536):o1=o2:=by
 obtain⟨s1,g1,a1,a2,a3,a4⟩:=h.key o1 x1 h1;obtain⟨s2,g2,b1,b2,b3,b4⟩:=h.key o2 x2 h2
 have:=h.n16
 have es:s1=s2:=by omega
 subst es;rw[a4]at b4
 have:=Option.some.inj b4
 omega
theorem Zcr{v:List Nat}(h:v.Nodup):(Z1 v).Perm v:=ZEX (Yh v) h fun o=>onceV_mem
structure PsOk(N:ZJ)(x y:Ro)(fr dd sh old now:List Nat):Prop where
 v:Zn1 N x y=(fr.length+dd.length:Nat)
 o:old.length=sh.length+dd.length
 n:now.length=sh.length+fr.length
 up:∀k a b,sh[k]?=some a->sh[k+1]?=some b->a % 65536<b % 65536
 mem:∀a∈sh,a∈old/\a∈now
 ln:sh.length<1000000000/\fr.length<1000000000/\dd.length<1000000000/\old.length<1000000000/\now.length<1000000000
theorem Zdw(l m:List Nat):l.length=(l.filter fun o=>decide (o∈m)).length+(l.filter fun o=>decide (o∉m)).length:=by
 induction l with
 | nil=>rfl
 | cons a l ih =>
  rw[List.filter_cons,List.filter_cons,List.length_cons]
  by_cases h:a∈m
  ·rw[if_pos (decide_eq_true h),if_neg (by simp[h]),List.length_cons];omega
  ·rw[if_neg (by simp[h]),if_pos (decide_eq_true h),List.length_cons];omega
theorem Zo2{r:AR}(ho:AROk r)(hg:GoodN r.nodes){x y:Ro}{fr dd lv:List Nat}(h:Zr1 r.nodes [x] y fr dd lv):PsOk r.nodes x y fr dd (Yi r.nodes x y) (Z1 (Zh r.nodes x)) (Z1 (Zh r.nodes y)):=by
 have hx:=h.rsk x (by simp)
 have hy:=h.rok;have h6:=ho.h64;have hp:=ZSR hg h6 hx hy
 have hw:ZJj r.nodes [x]=Z1 (Zh r.nodes x):=by unfold ZJj;simp
 have hdd:dd.Perm ((Z1 (Zh r.nodes x)).filter fun o=>decide (o∉Z1 (Zh r.nodes y))):=by
  rw[h.hd,hw];exact Zcr ((Yh _).filter _)
 have hfr:fr.Perm ((Z1 (Zh r.nodes y)).filter fun o=>decide (o∉Z1 (Zh r.nodes x))):=by
  refine ZEX h.fn ((Yh _).filter _) fun o=>?_
  rw[List.mem_filter,decide_eq_true_eq]
  constructor
  ·intro q
   have q2:=(h.frk o q).2
   exact⟨q2,fun w=>((h.now o q2).1.1 (by rw[hw];exact w)) q⟩
  ·rintro⟨q1,q2⟩
   by_cases w:o∈fr
   ·exact w
   ·exact absurd (by have:=(h.now o q1).1.2 w;rw[hw]at this;exact this) q2
 have s1:=Zdw (Z1 (Zh r.nodes x)) (Z1 (Zh r.nodes y));have s2:=Zdw (Z1 (Zh r.nodes y)) (Z1 (Zh r.nodes x));have hp2:=ZSR hg h6 hy hx;rw[ZSQ]at hp2;have l1:=hp.length_eq;have l2:=hp2.length_eq;have l3:=hdd.length_eq;have l4:=hfr.length_eq;have hln:=h.ln
 have hmem:∀a∈Yi r.nodes x y,a∈Z1 (Zh r.nodes x)/\a∈Z1 (Zh r.nodes y):=fun a ha=>by
  have:=hp.mem_iff.1 ha
  rw[List.mem_filter,decide_eq_true_eq]at this;exact this
 have hsnd:(Yi r.nodes x y).Nodup:=hp.nodup_iff.2 ((Yh _).filter _);have hbx:=(Jg (Zh r.nodes x)).2.2;have hbx2:=YD hg hx
 refine⟨?_,by omega,by omega,fun k a b ha hb=>?_,hmem,by omega,by omega,?_,by omega,by omega⟩
 ·rw[Zq3];omega
 ·obtain⟨ka,rfl⟩:=List.getElem?_eq_some_iff.1 ha
  obtain⟨kb,rfl⟩:=List.getElem?_eq_some_iff.1 hb
  have hs:=(List.pairwise_iff_getElem.1 (ZiL (ZLa (fun n=>decide (n=2)) (ZFm r.nodes x y)))) k (k+1) ka kb (by omega)
  change (Yi r.nodes x y)[k] % 65536<=(Yi r.nodes x y)[k+1] % 65536 at hs
  obtain⟨u,hu⟩:=ZI6 hg hx _ (onceV_mem.1 (hmem _ (List.getElem_mem ka)).1);obtain⟨w,hw2⟩:=ZI6 hg hx _ (onceV_mem.1 (hmem _ (List.getElem_mem kb)).1)
  rcases Nat.lt_or_ge ((Yi r.nodes x y)[k] % 65536) ((Yi r.nodes x y)[k+1] % 65536) with q|q
  ·exact q
  ·have e:=Zo1 ho hu hw2 (by omega)
   have:=(List.getElem_inj hsnd).1 e
   omega
 ·omega
theorem ZrC{L:List Blk}{sh old now:List Nat}{v18:AV}(hup:∀k a b,sh[k]?=some a->sh[k+1]?=some b->a % 65536<b % 65536)(hmem:∀a∈sh,a∈old/\a∈now)
 (hl:sh.length<1000000000/\old.length<1000000000/\now.length<1000000000) (h64:∀a∈sh,a<18446744073709551616) {k:List Fr} {Q:J0}
 (hQ:Rk (S TW) k Q .norm [(18,v18),(20,.lit (sh.map QB)),(25,.lit (old.map QB)),(27,.lit (now.map QB)),(29,.int .i64 sh.length),(178,.bool false)] ⟨A,false,L⟩) :
 Ru (S TW) p_quartolaw20_PatchShares_28.loop (.blk 0::k) Q [(18,v18),(20,.lit (sh.map QB)),(25,.lit (old.map QB)),(27,.lit (now.map QB)),(29,.int .i64 0)] ⟨A,false,L⟩:=by
 refine Z2 (α:=Nat) (fun i=>[(18,v18),(20,.lit (sh.map QB)),(25,.lit (old.map QB)),(27,.lit (now.map QB)),(29,.int .i64 i)]) (fun i=>⟨A,false,L⟩) (fun i=>i<=sh.length) (fun i=>sh.length-i) 0 Y Y (Nat.zero_le _) ?_
 intro i hi
 have hHo:=fun h st=>Zcq (Zkm old (by omega) h st)
 have hHn:=fun h st=>Zcq (Zkm now (by omega) h st)
 rcases Nat.lt_or_ge i sh.length with hlt|hge
 ·obtain⟨a,ha⟩:∃a,sh[i]?=some a:=⟨sh[i]'hlt,jE _⟩
  have q:0<=((i:Nat):Int)/\sh[((i:Nat):Int).toNat]?=some a:=⟨by omega,by rw[show ((i:Nat):Int).toNat=i by omega];exact ha⟩
  obtain⟨m1,m2⟩:=hmem a (jM ha)
  have ho:=fun st=>hHo a st
  have hn:=fun st=>hHn a st
  rw[decide_eq_true m1]at ho;rw[decide_eq_true m2]at hn
  rcases Nat.eq_zero_or_pos i with h0|hpos
  ·subst h0
   repeat'(first|refine XH Y ?_|refine JD (f:=QB) Y Y q (fun _=>rfl) ?_|refine ZE ?_|refine ZD ?_|refine ZG Y ?_|refine QE Y ?_|refine JW Y Y ?_|refine Zo Y Y Y Y ?_|refine ZB Y ?_|refine ZC ?_|refine QH Y Y ?_|(refine cm0 Y Y Y ?_ ?_<;>intro _<;>try omega)|refine ZW Y ?_|refine ZH Y ?_|refine JC Y Y ?_|refine Zm Y Y (by omega) ?_|refine ZA Y Y Y (ho _) ?_|refine ZA Y Y Y (hn _) ?_|refine ZI ?_|refine ZL ?_|refine Zz ?_|refine QD ?_)
   all_goals try first|contradiction|omega
   all_goals exact⟨1,⟨rfl,rfl⟩,by omega,by omega⟩
  ·obtain⟨b,hb⟩:∃b,sh[i-1]?=some b:=⟨sh[i-1]'(by omega),jE _⟩
   have q2:0<=((i:Nat):Int)-1/\sh[(((i:Nat):Int)-1).toNat]?=some b:=⟨by omega,by rw[show (((i:Nat):Int)-1).toNat=i-1 by omega];exact hb⟩
   have hab:=hup (i-1) b a hb (by rw[Nat.sub_add_cancel hpos];exact ha)
   have ha6:=h64 a (jM ha);have hb6:=h64 b (jM hb)
   repeat'(first|refine XH Y ?_|refine JD (f:=QB) Y Y q2 (fun _=>rfl) ?_|refine JD (f:=QB) Y Y q (fun _=>rfl) ?_|refine ZmF Y Y ?_|refine ZE ?_|refine ZD ?_|refine ZG Y ?_|refine QE Y ?_|refine Zo Y Y Y Y ?_|refine ZB Y ?_|refine ZC ?_|refine QH Y Y ?_|(refine cm0 Y Y Y ?_ ?_<;>intro _<;>try omega)|refine ZW Y ?_|refine ZH Y ?_|refine JC Y Y ?_|refine Zm Y Y (by omega) ?_|refine Jw Y Y (by omega) ?_|refine ZA Y Y Y (ho _) ?_|refine ZA Y Y Y (hn _) ?_|refine ZI ?_|refine ZL ?_|refine Zz ?_|refine QD ?_)
   all_goals try first|contradiction|omega
   all_goals exact⟨i+1,⟨rfl,rfl⟩,by omega,by omega⟩
 ·obtain rfl:i=sh.length:=by omega
  repeat'(first|refine XH Y ?_|refine ZE ?_|refine ZD ?_|refine ZG Y ?_|refine ZB Y ?_|refine ZC ?_|(refine cm0 Y Y Y ?_ ?_<;>intro _<;>try omega)|refine ZH Y ?_|refine Zv ?_|refine Zf ?_|refine Zc Y ?_|refine Zu ?_)
  all_goals try omega
  all_goals exact hQ
theorem ZiU{texts:List B8}{ys:List Ed}(h:¬ ZDb texts ys):(texts.flatten.length<=900/\texts.length<=4)/\ys.length<=12/\∀y∈ys,y.text.length<=200:=by
 have h1:¬ ZSN texts:=fun q=>h (.inl q)
 have h2:¬ ZaF ys:=fun q=>h (.inr (.inl q))
 have h3:¬ 12<ys.length:=fun q=>h (.inr (.inr q))
 obtain⟨a,b,c⟩:=ZsF h1 h2
 exact⟨a,by omega,c⟩
theorem ZmG(b:Nat)(st:St)(ro:Ro)(fr dd:List Nat):ZZ QF b st (XV ro fr (slH dd))=some (XV ro fr (slH dd),st):=by
 unfold slH XV
 split<;>rfl
theorem Zo3(y:AV)(ro:Ro)(fr dd:List Nat):(Q2 7 y 0 7 (XV ro fr (slH dd))).bind J1=some (XV ro fr (slH dd)):=by
 unfold slH XV
 split<;>rfl
section
variable {O:Orc}{k:List Fr}{Q:J0}{e:Env}{A:List (Bool × List Blk)}{L:List Blk}{keep:List Nat}{is:List QAbs.PI}{d:Nat}
theorem ZmH{a x:Opd}{y:AV}{fr dd:List Nat}(ha:Zd e a=some (.ptr A.length L.length 0 0 0))(hx:Zd e x=some (XV ro fr (slH dd)))(h:Is O is keep k Q e ⟨A,false,L++[Blk.arr 7 0 [XV ro fr (slH dd)]]⟩):
 Is O (⟨none,none,false,.st 7 a x⟩::is) keep k Q e ⟨A,false,L++[Blk.arr 7 0 [y]]⟩ :=
 ZIb (L0:=L) (T:=[Blk.arr 7 0 [y]]) (ix:=0) (i:=0) (w:=7) (ver:=0) (es:=[y]) ha hx rfl rfl (ZmG _ _ _ _ _) (Zo3 _ _ _ _) (XF _) h
end
theorem ZrD(ro:Ro)(fr dd:List Nat)(hd:dd.length<9223372036854775808):∃dv,Q3 (XV ro fr (slH dd)) false 6 1=some dv/\∀ {T:Tab} {k:List Fr} {Q:J0} {e:Env} {keep:List Nat} {is:List QAbs.PI} {d:Nat} {st:St} {x:Opd},Zd e x=some dv ->
 Is (S T) is keep k Q ((d,.int .i64 dd.length)::e) st->Is (S T) (⟨some d,none,false,.len 1 x⟩::is) keep k Q e st:=by
 unfold slH
 split
 ·rename_i h
  subst h
  exact⟨.nils,rfl,fun hx h=>Jx hx h⟩
 ·exact⟨.lit (dd.map QB),rfl,fun hx h=>XH hx h⟩
theorem Zcs(texts:List B8)(ys:List Ed)(which at_ num:Int)(s:B8)(hb:texts.length<9223372036854775808)(hbs:∀s∈texts,s.length<9223372036854775808)(hy:ys.length<9223372036854775808)(hys:∀y∈ys,y.text.length<9223372036854775808)(hs0:s.length<9223372036854775808)(st:St):
 S TW QS [.lit (texts.map .str),.lit (ys.map Ed.av),.int .i64 which,.int .i64 at_,.int .i64 num,.str s] st=some (.bool true,st):=by
 refine QK (leW QS (.pf Qk) (leV QS (.pf Qk) (le3 QS (.pf Qk) Y))) (fun A hA=>?_)
 have hBy:=fun st=>Zcq (ZoZ texts ys hb hbs hy hys st)
 have hWk:=fun st=>upW (ZmE st)
 by_cases hl:ZDb texts ys
 ·simp only[decide_eq_true hl]at hBy
  repeat'(first|refine ZE ?_|refine ZD ?_|refine ZG Y ?_|refine JW Y Y ?_|refine Zo Y Y Y Y ?_|refine ZB Y ?_|refine ZC ?_|refine ZW Y ?_|refine ZA Y Y Y (hBy _) ?_|refine ZA Y Y Y (hWk _) ?_|refine ZQ ?_|refine ZO ?_|refine Za ?_)
  all_goals try first|contradiction|omega
  all_goals refine Zi hA (by simp) Y Y Y Y ?_
  all_goals rfl
 simp only[decide_eq_false hl]at hBy;obtain⟨h9,h12,hy2⟩:=ZiU hl
 by_cases h3:s.length > 300
 ·repeat'(first|refine ZE ?_|refine ZD ?_|refine ZG Y ?_|refine QE Y ?_|refine Zo Y Y Y Y ?_|refine ZB Y ?_|refine ZC ?_|refine JR Y ?_|(refine cm0 Y Y Y ?_ ?_<;>intro _<;>try omega)|refine ZW Y ?_|refine ZA Y Y Y (hBy _) ?_|refine ZA Y Y Y (hWk _) ?_|refine ZQ ?_|refine ZO ?_|refine Za ?_)
  all_goals try first|contradiction|omega
  all_goals refine Zi hA (by simp) Y Y Y Y ?_
  all_goals rfl
 obtain⟨v,st',hMk,r,c,ros,ss,G0,G1,n,rfl,rfl,hI⟩:=ZsG texts ys h9 h12 hy2 A;have hMk:=Zcq hMk;have hn20:=hI.n20;have hrs:=hI.len;have hsl:=hI.rts.1
 rcases Nat.eq_zero_or_pos n with hn0|hpos
 ·subst hn0
  repeat'(first|refine ZE ?_|refine ZD ?_|refine ZG Y ?_|refine QE Y ?_|refine Zo Y Y Y Y ?_|refine Zs Y Y ?_|refine ZB Y ?_|refine ZC ?_|refine JR Y ?_|refine JZ Y ?_|(refine cm0 Y Y Y ?_ ?_<;>intro _<;>try omega)|refine ZW Y ?_|refine ZH Y ?_|refine JC Y Y ?_|refine ZA Y Y Y (hBy _) ?_|refine ZA Y Y Y (hWk _) ?_|refine ZA Y Y Y (hMk) ?_|refine ZI ?_|refine ZQ ?_|refine ZO ?_|refine Za ?_)
  all_goals try first|contradiction|omega
  all_goals refine Zi hA (by simp) Y Y Y Y ?_
  all_goals rfl
 have hpb:=Qx (x:=which) (n:=(n:Int)-1) (by omega)
 have hPk:=fun st=>Zcq (Zjk which ((n:Int)-1) (by omega) (by omega) st)
 generalize JK which ((n:Int)-1)=z at *
 obtain⟨ro,hro⟩:∃x,ros[z.toNat]?=some x:=⟨_,jE (by omega)⟩
 obtain⟨t,ht⟩:∃x,ss[z.toNat]?=some x:=⟨_,jE (by omega)⟩
 have hRt:=hI.rts.2 z.toNat ro t hro ht;have hsm:=hI.small t (jM ht);have f6:(ltL A.length r n ros G0 c ss G1)[6]?=_:=ZsE;have f7:(ltL A.length r n ros G0 c ss G1)[7+G0.length]?=_:=lt_7;have hHas:=ZaG (A:=A) (r:=r) (v:=n) (ros:=ros) (G0:=G0) (w:=c) (ss:=ss) (G1:=G1);have hXl:7+G0.length<(ltL A.length r n ros G0 c ss G1).length:=(List.getElem?_eq_some_iff.1 f7).1
 have g6:(ros.map Ro.av)[0+z.toNat]?=some ro.av:=by rw[Nat.zero_add,jG,hro];rfl
 have g7:(ss.map AV.str)[0+z.toNat]?=some (.str t):=by rw[Nat.zero_add,jG,ht];rfl
 have hab:=Qx (x:=at_) (n:=(t.length:Int)) (by omega)
 have hPa:=fun st=>Zcq (Zjk at_ t.length (by omega) (by omega) st)
 generalize JK at_ t.length=a at *
 have hmb:=Qx (x:=num) (n:=(t.length:Int)-a) (by omega)
 have hPm:=fun st=>Zcq (Zjk num ((t.length:Int)-a) (by omega) (by omega) st)
 generalize JK num ((t.length:Int)-a)=m at *
 have o1:=hI.ok;have o2:=hI.good
 have hE:EdOk r.nodes ro t a m s:=⟨hRt,hab.1,hmb.1,by omega,by omega,by omega⟩
 generalize ltL A.length r n ros G0 c ss G1=X at *
 rcases Nat.lt_or_ge r.n (nw (edV r.nodes ro a m s)) with hfull|hroom
 ·have hRe:=Zcq (Zcn (b:=0) hHas o1 o2 hE hfull)
  unfold chZ at hRe
  repeat'(first|refine ZB0 Y Y (by omega) f7 ?_|refine ZP Y f7 g7 Y ?_|refine ZB0 Y Y (by omega) f6 ?_|refine ZP Y f6 g6 (ZOa _) ?_|refine ZE ?_|refine ZD ?_|refine ZG Y ?_|refine QE Y ?_|refine Zo Y Y Y Y ?_|refine Zs Y Y ?_|refine ZB Y ?_|refine ZC ?_|refine JR Y ?_|refine JZ Y ?_|(refine cm0 Y Y Y ?_ ?_<;>intro _<;>try omega)|refine ZW Y ?_|refine ZH Y ?_|refine JC Y Y ?_|refine Jw Y Y (by omega) ?_|refine Zx Y Y Y ?_|refine YA Y Y Y Y Y Y ?_|refine ZA Y Y Y (hBy _) ?_|refine ZA Y Y Y (hWk _) ?_|refine ZA Y Y Y (hMk) ?_|refine ZA Y Y Y (hPk _) ?_|refine ZA Y Y Y (hPa _) ?_|refine ZA Y Y Y (hPm _) ?_|refine ZA Y Y Y (hRe) ?_|refine ZI ?_|refine ZQ ?_|refine ZO ?_|refine Za ?_)
  all_goals try first|contradiction|omega
  all_goals refine Zi hA (by simp) Y Y Y Y ?_
  all_goals rfl
 have hRe:=Zcq (Zjj (b:=0) hHas o1 o2 hE hroom);rw[Zo0]at hRe;obtain⟨v1,v2,v3⟩:=hE.ok o2
 obtain⟨w1,w2⟩:=ZaB (r:=r) (XU [] [] [] _) o1 o2 v1 (by rw[v2];omega) hroom
 have hSh:=Zoj o1 o2 v1 (by rw[v2];omega) hroom (rs:=[ro]) (by simp) (fun x hx=>by rw[List.mem_singleton]at hx;subst hx;exact hRt.rt) (fun o ho=>⟨ro,by simp,ZsN o2 hE o ho⟩)
 have hPs:=Zo2 w1.ok w1.good hSh;obtain⟨Y',hY⟩:∃Y',Y'=arL X A.length 0 (wrV (edV r.nodes ro a m s) r).1:=⟨_,rfl⟩
 have lY:Y'.length=X.length:=by rw[hY,ZrB]
 have y6:Y'[6]?=some (.arr 5 n (ros.map Ro.av)):=by rw[hY,ZsT _ (by omega)];exact f6
 have hHY:Has ⟨A,false,Y'⟩ A.length 0 (wrV (edV r.nodes ro a m s) r).1:=by
  have:=hHas.put (wrV (edV r.nodes ro a m s) r).1
  rw[Zo0,<- hY]at this;exact this
 rw[<- hY]at hRe;have q1:=w1.ok;have q2:=w1.good;have hox:=hRt.rt.ext w1.ext
 have h64:∀o∈Yi (wrV (edV r.nodes ro a m s) r).1.nodes ro (wrV (edV r.nodes ro a m s) r).2.1,o<18446744073709551616:=fun o ho=>ZaM q2 q1.h64 hox (hPs.mem o ho).1
 clear hY w1 hSh v1 v2 v3 hroom hE
 generalize Xm r.nodes [ro] (edV r.nodes ro a m s)=dd at *
 generalize (wrV (edV r.nodes ro a m s) r).2.2=fr at *
 generalize (wrV (edV r.nodes ro a m s) r).2.1=ro2 at *
 generalize (wrV (edV r.nodes ro a m s) r).1=r2 at *
 have hHZ:=hHY.app [.arr 7 0 [XV ro2 fr (slH dd)]];have hS1:=ZiO q2 q1.h64 hHZ.r.rd hox w2.rt;have hS2:=ZiO q2 q1.h64 hHZ.r.rd w2.rt hox;rw[ZSQ r2.nodes ro2 ro]at hS2;have hVi:=upW (Zdl q2 hHZ.r.rd hox w2.rt);have hN1:=upW (upV (ZVx q2 hHZ.r.rd hox));have hN2:=upW (upV (ZVx q2 hHZ.r.rd w2.rt));rw[hPs.v]at hVi;obtain⟨ln1,ln2,ln3,ln4,ln5⟩:=hPs.ln
 have hEH:=fun st=>Zcq (ZaJ (Yi r2.nodes ro ro2) (by omega) st)
 have e1:=hPs.o;have e2:=hPs.n;have hup:=hPs.up;have hmem:=hPs.mem
 generalize Yi r2.nodes ro ro2=sh at *
 generalize Z1 (Zh r2.nodes ro)=old at *
 generalize Z1 (Zh r2.nodes ro2)=now at *
 have hlp:=fun v18 k Q hQ=>ZrC (A:=A) (L:=Y'++[.arr 7 0 [XV ro2 fr (slH dd)]]) (v18:=v18) hup hmem ⟨ln1,ln4,ln5⟩ h64 (k:=k) (Q:=Q) hQ
 have z6:∀T,(Y'++T)[6]?=some (.arr 5 n (ros.map Ro.av)):=fun T=>by rw[jL (by omega)];exact y6
 have zc:∀b,(Y'++[b])[Y'.length]?=some b:=fun b=>List.getElem?_concat_length ..
 have c5:Q3 (XV ro2 fr (slH dd)) true 0 5=some ro2.av:=rfl;have cf:Q3 (XV ro2 fr (slH dd)) false 5 1=some (.lit (fr.map QB)):=rfl
 obtain⟨dv,cd,hln⟩:=ZrD ro2 fr dd (by omega)
 repeat'(first|refine hlp _ _ _ ?_|refine ZB0 Y Y (by omega) f7 ?_|refine ZP Y f7 g7 Y ?_|refine ZB0 Y Y (by omega) f6 ?_|refine ZP Y f6 g6 (ZOa _) ?_|refine ZmH Y Y ?_|refine ZB0 Y Y (by omega) (z6 _) ?_|refine ZP Y (z6 _) g6 (ZOa _) ?_|refine ZP Y (zc _) Y c5 ?_|refine ZP Y (zc _) Y cf ?_|refine ZP Y (zc _) Y cd ?_|refine hln Y ?_|refine XH Y ?_|refine ZE ?_|refine ZD ?_|refine ZG Y ?_|refine ZU Y Y ?_|refine QE Y ?_|refine Zo Y Y Y Y ?_|refine Zs Y Y ?_|refine ZB Y ?_|refine ZC ?_|refine JR Y ?_|refine JZ Y ?_|(refine cm0 Y Y Y ?_ ?_<;>intro _<;>try omega)|refine ZH Y ?_|refine JC Y Y ?_|refine Zm Y Y (by omega) ?_|refine Jw Y Y (by omega) ?_|refine Zx Y Y Y ?_|refine ZA Y Y Y (hBy _) ?_|refine ZA Y Y Y (hWk _) ?_|refine ZA Y Y Y (hMk) ?_|refine ZA Y Y Y (hPk _) ?_|refine ZA Y Y Y (hPa _) ?_|refine ZA Y Y Y (hPm _) ?_|refine ZA Y Y Y (hRe) ?_|refine ZA Y Y Y (hS1) ?_|refine ZA Y Y Y (hS2) ?_|refine ZA Y Y Y (hVi) ?_|refine ZA Y Y Y (hN1) ?_|refine ZA Y Y Y (hN2) ?_|refine ZA Y Y Y (hEH _) ?_|refine ZI ?_|refine ZQ ?_|refine ZL ?_|refine ZO ?_)
 all_goals try first|contradiction|omega
 all_goals first|contradiction|omega|(refine Zi hA (by simp) Y Y Y Y ?_;rfl)
end Go.Q15
namespace Go.QAbs
open Go.ChangeShapes Go.WideShapes Go.RowKit Go.Deep
variable {a:Int}{A:List (Bool × List Blk)}{s s0:B8}{i iw ix la lw w:Nat}{st:St}
variable {P:Program}
def rho0:Rho:=⟨fun _ _=>⟨0,0,0⟩,fun _=>(0,[])⟩
theorem ZmI(lv ix:Nat):St.empty.get lv ix=none:=by
 unfold St.empty St.get
 split<;>simp[vis]
theorem Zo4{W:World}{b o:Nat}{v:Value}(h:W.cell? ⟨b,o,none⟩=some v):(cx .empty rho0 W 0).im b o v :=
 ⟨h,fun ⟨lv,ix,w,ver,es,hg,_⟩=>by rw[ZmI]at hg;simp at hg⟩
theorem walk_in(hm:P.follows .mixedOrders=true){T:Tab}(hT:TabOk P T){f:FuncId}{args:LV}(h:∃st',S T f args .empty=some (.bool true,st')){W:World}{xs:List Value}(hg:KG P W (.of W))(hx:RL (cx .empty rho0 W 0) args xs):
 Calls P f xs.toArray W fun e W'=>e=.returned (.bool true)/\Below W.heap.size W W':=by
 obtain⟨st',h⟩:=h
 refine (Zpu hm hT h hg (ZlL W) hx).mono fun e' W' ⟨x,_,he,g,hv⟩=>?_
 subst he
 exact⟨by rw[YI hv],g.rel.below.b⟩
theorem Zkw{W:World}{b off len cap:Nat}(es:LV)(g:Nat->Value)(hlen:es.length=len)(hc:len<=cap)(he:∀(i:Nat) (e:AV),es[i]?=some e->R (cx .empty rho0 W 0).pure e (g i))
 (hg:∀i,i<len->(g i).cells.size=w/\∀(j:Nat) (v:Value),(g i).cells[j]?=some v->W.cell? ⟨b,off+i*w+j,none⟩=some v):R (cx .empty rho0 W 0) (.lit es) (.slice (some ⟨b,off,none⟩) len cap):=by
 subst hlen
 exact .lit (w:=w) g he (fun i hi=>⟨(hg i hi).1,fun j v hv=>Zo4 ((hg i hi).2 j v hv)⟩) hc
section
variable {H:Type}{enc:TypeId × Value->H}
theorem open_strs_arg{W:World}{base:Nat}{t e:TypeId}{v:Value}{d:DataW H}{ps:List MemPlace}(ht:P.underlying t=some (.slice e))(he:P.underlying e=some .string)(hc:P.cellsOf e=1)
 (hval:Value.okWide P W .any base t v) (h:DataW.Trod enc P W 0 (fun _=>true) true t v d ps) :
 ∃ss:List B8,(∀s∈ss,s.length<=maxLen)/\ss.length<=maxLen/\R (cx .empty rho0 W 0) (.lit (ss.map .str)) v:=by
 obtain⟨a0,len,cap,rfl⟩:=okWide_slice ht hval;obtain⟨fuel,hf⟩:=h
 rcases open_strings ht he hc hf with⟨hcs,hx⟩|⟨a,len',cap',ss,hcs,_,hl,hm,hz,hx,hcell,hsz⟩
 ·refine⟨[],by simp,by simp,?_⟩
  have:(Value.slice a0 len cap)=.slice none 0 0:=by simpa [Value.cells] using hcs
  rw[this];exact .lit0 _ _
 ·have hv:(Value.slice a0 len cap)=.slice (some a) len' cap':=by simpa [Value.cells] using hcs
  rw[hv];simp only[if_true]at hz
  refine⟨(ss.take len').map (fun s=>s.data.toList),?_,?_,?_⟩
  ·intro s hs
   obtain⟨s',hs',rfl⟩:=List.mem_map.1 hs;rw[Array.length_toList];exact hsz s' (List.mem_of_mem_take hs')
  ·rw[List.length_map,List.length_take];omega
  ·cases len' with
   | zero=>exact .lit0 _ _
   | succ n =>
    obtain⟨b,off,spot⟩:=a
    have hspot:spot=none:=by simpa [Addr.add] using World.cell?_spot (hcell 0 (by omega))
    subst hspot
    refine Zkw (w:=1) _ (fun i=>.string (ss.getD i ByteArray.empty)) (by simp;omega) hl (fun i e he=>?_) (fun i hi=>⟨rfl,fun j v hv=>?_⟩)
    ·rw[jG,jG,List.getElem?_take]at he
     by_cases hi:i<n+1
     ·rw[if_pos hi]at he
      have hs:ss[i]?=some (ss.getD i ByteArray.empty):=by
       have:i<ss.length:=by omega
       simp[List.getD,this]
      rw[hs]at he;simp only[Option.map_some,oJ]at he;subst he;rw[str_eq (ss.getD i ByteArray.empty)];exact .str _
     ·rw[if_neg hi]at he;simp at he
    ·have hj : j = 0 := by
      have:j<(Value.string (ss.getD i ByteArray.empty)).cells.size:=(Array.getElem?_eq_some_iff.1 hv).1
      simp[Value.cells]at this;omega
     subst hj
     have hv':Value.string (ss.getD i ByteArray.empty)=v:=by simpa [Value.cells] using hv
     rw[<- hv']
     have:=hcell i (by omega)
     simpa [Addr.add_lit] using this
theorem open_ops_arg{W:World}{base:Nat}{t e t0 t1 t2 t3 t4:TypeId}{f0 f1 f2 f3 f4:Field}{v:Value}{d:DataW H}{ps:List MemPlace}(ht:P.underlying t=some (.slice e))(he:P.underlying e=some (.struct #[f0,f1,f2,f3,f4]))(hc:P.cellsOf e=5)
 (hf0:f0.type=t0/\f0.offset=0/\P.underlying t0=some (.int .u8)/\P.cellsOf t0=1) (hf1:f1.type=t1/\f1.offset=1/\P.underlying t1=some (.int .i64)/\P.cellsOf t1=1) (hf2:f2.type=t2/\f2.offset=2/\P.underlying t2=some (.int .i64)/\P.cellsOf t2=1)
 (hf3:f3.type=t3/\f3.offset=3/\P.underlying t3=some (.int .i64)/\P.cellsOf t3=1) (hf4:f4.type=t4/\f4.offset=4/\P.underlying t4=some .string/\P.cellsOf t4=1) (hval:Value.okWide P W .any base t v) (h:DataW.Trod enc P W 0 (fun _=>true) true t v d ps) :
 ∃l:List (Nat × Int × Int × Int × B8),(∀s∈l,s.2.2.2.2.length<=maxLen)/\l.length<=maxLen/\R (cx .empty rho0 W 0) (.lit (l.map fun q=>.agg [.int .u8 q.1,.int .i64 q.2.1,.int .i64 q.2.2.1,.int .i64 q.2.2.2.1,.str q.2.2.2.2])) v:=by
 obtain⟨a0,len,cap,rfl⟩:=okWide_slice ht hval;obtain⟨fuel,hf⟩:=h
 rcases open_slice ht hf with⟨hcs,hx⟩|⟨a,len',cap',m,n,D,Pl,hcs,_,hl,hm,hmm,hx,hall⟩
 ·refine⟨[],by simp,by simp,?_⟩
  have:(Value.slice a0 len cap)=.slice none 0 0:=by simpa [Value.cells] using hcs
  rw[this];exact .lit0 _ _
 ·have hv:(Value.slice a0 len cap)=.slice (some a) len' cap':=by simpa [Value.cells] using hcs
  rw[hv];simp only[if_true]at hmm;subst hmm;rw[hc]at hall
  have each:∀i,i<len'->∃q:Nat × Int × Int × Int × B8,q.2.2.2.2.length<=maxLen/\W.cell? (a.add (i*5))=some (.int .u8 q.1)/\W.cell? (a.add (i*5+1))=some (.int .i64 q.2.1)/\W.cell? (a.add (i*5+2))=some (.int .i64 q.2.2.1)/\W.cell? (a.add (i*5+3))=some (.int .i64 q.2.2.2.1)/\W.cell? (a.add (i*5+4))=some (.string ⟨q.2.2.2.2.toArray⟩):=by
   intro i hi
   obtain⟨cs',h1,h2⟩:=hall i (by omega)
   obtain⟨_,hlen,hcell⟩:=World.cells?_some h1;obtain⟨xs,k,_,_,_,hxl,hfs⟩:=DataW.trod_struct he h2;have g0:=hfs 0 f0 rfl;have g1:=hfs 1 f1 rfl;have g2:=hfs 2 f2 rfl;have g3:=hfs 3 f3 rfl;have g4:=hfs 4 f4 rfl
   match cs',hlen,xs,hxl with
   | [c0,c1,c2,c3,c4],_,[y0,y1,y2,y3,y4],_ =>
    simp only[hf0.1,hf0.2.1,hf0.2.2.2,hf1.1,hf1.2.1,hf1.2.2.2,hf2.1,hf2.2.1,hf2.2.2.2,hf3.1,hf3.2.1,hf3.2.2.2,hf4.1,hf4.2.1,hf4.2.2.2,List.drop,List.take,List.getElem?_cons_zero,List.getElem?_cons_succ]at g0 g1 g2 g3 g4;obtain⟨n0,e0,_,w0⟩:=DataW.trod_int hf0.2.2.1 g0;obtain⟨n1,e1,_,_⟩:=DataW.trod_int hf1.2.2.1 g1;obtain⟨n2,e2,_,_⟩:=DataW.trod_int hf2.2.2.1 g2;obtain⟨n3,e3,_,_⟩:=DataW.trod_int hf3.2.2.1 g3;obtain⟨s,e4,_,hs⟩:=DataW.trod_string hf4.2.2.1 g4;simp only[List.cons.injEq,and_true]at e0 e1 e2 e3 e4;subst e0;subst e1;subst e2;subst e3;subst e4
    have hn0:0<=n0:=by
     simp only[Lit.wf,Bool.and_eq_true,decide_eq_true_eq]at w0;exact w0.1
    refine⟨(n0.toNat,n1,n2,n3,s.data.toList),by simp only[Array.length_toList];exact hs,?_,?_,?_,?_,?_⟩
    ·have:=hcell 0 (by omega)
     simp only[add_add,Nat.add_zero,List.getElem?_cons_zero]at this;rw[this];simp only[Int.toNat_of_nonneg hn0]
    ·have:=hcell 1 (by omega)
     simpa only [add_add,List.getElem?_cons_succ,List.getElem?_cons_zero] using this
    ·have:=hcell 2 (by omega)
     simpa only [add_add,List.getElem?_cons_succ,List.getElem?_cons_zero] using this
    ·have:=hcell 3 (by omega)
     simpa only [add_add,List.getElem?_cons_succ,List.getElem?_cons_zero] using this
    ·have:=hcell 4 (by omega)
     simp only[add_add,List.getElem?_cons_succ,List.getElem?_cons_zero]at this;rw[this,str_eq s]
  obtain⟨q,hq⟩:=choose_lt each
  refine⟨(List.range len').map q,?_,by simp;omega,?_⟩
  ·intro s hs
   obtain⟨i,hi,rfl⟩:=List.mem_map.1 hs;exact (hq i (List.mem_range.1 hi)).1
  ·cases len' with
   | zero=>exact .lit0 _ _
   | succ len' =>
    obtain⟨b,off,spot⟩:=a
    have hspot:spot=none:=by simpa [Addr.add] using World.cell?_spot (hq 0 (by omega)).2.1
    subst hspot
    refine Zkw (w:=5) _ (fun i=>.agg #[.int .u8 (q i).1,.int .i64 (q i).2.1,.int .i64 (q i).2.2.1,.int .i64 (q i).2.2.2.1,.string ⟨(q i).2.2.2.2.toArray⟩]) (by simp) hl (fun i e he=>?_) (fun i hi=>⟨by simp[Value.cells],fun j v hv=>?_⟩)
    ·rw[jG,jG]at he
     by_cases hi:i<len'+1
     ·rw[List.getElem?_range hi]at he
      simp only[Option.map_some,oJ]at he;subst he;have hr:=RL.cons (C:=(cx .empty rho0 W 0).pure) (.int .u8 ((q i).1:Int)) (.cons (.int .i64 (q i).2.1) (.cons (.int .i64 (q i).2.2.1) (.cons (.int .i64 (q i).2.2.2.1) (.cons (.str (q i).2.2.2.2) (.nil _)))));exact .agg (xs:=[_,_,_,_,_]) hr.1 hr.2
     ·have:(List.range (len'+1))[i]?=none:=by simp;omega
      rw[this]at he;simp at he
    ·obtain⟨_,k0,k1,k2,k3,k4⟩:=hq i hi
     have hj:j<5:=by
      have:=(Array.getElem?_eq_some_iff.1 hv).1
      simpa [Value.cells] using this
     simp only[Addr.add_lit]at k0 k1 k2 k3 k4
     match j,hj with
     | 0,_ =>
      have:v=.int .u8 (q i).1:=by simpa [Value.cells] using hv.symm
      subst this;simpa using k0
     | 1,_ =>
      have:v=.int .i64 (q i).2.1:=by simpa [Value.cells] using hv.symm
      subst this;simpa [Nat.add_assoc] using k1
     | 2,_ =>
      have:v=.int .i64 (q i).2.2.1:=by simpa [Value.cells] using hv.symm
      subst this;simpa [Nat.add_assoc] using k2
     | 3,_ =>
      have:v=.int .i64 (q i).2.2.2.1:=by simpa [Value.cells] using hv.symm
      subst this;simpa [Nat.add_assoc] using k3
     | 4,_ =>
      have:v=.string ⟨(q i).2.2.2.2.toArray⟩:=by simpa [Value.cells] using hv.symm
      subst this;simpa [Nat.add_assoc] using k4
end
end Go.QAbs
namespace Go.Q15
open Go Go.QAbs
variable {a:Int}{A:List (Bool × List Blk)}{s s0:B8}{i iw ix la lw w:Nat}{p:Pce}{ro:Ro}{st:St}{d t x:Tr}
open Go.Shelf in
def Zo5:Ren:=⟨fun|41=>109|n=>n,fun|22=>156|23=>166|n=>n,fun n=>n⟩
theorem Zo6:Go.Proofs.SlLaysE0.n41 Proofs.Tryz.prog Zo5:={
 mixed:=by kernel_rfl
 f41 := ⟨"slices.Clone[[]quarto/api.Kid,quarto/api.Kid]", by decide, Proofs.Tryz.func109.trans (congrArg some (by kernel_rfl))⟩
 t4:=Proofs.Tryz.underlying4
 a4:=Proofs.Tryz.isAgg4
 z4:=Proofs.Tryz.sizeOf4
 v4:=Proofs.Tryz.zeroValue4
 t22:=Proofs.Tryz.underlying156
 a22:=Proofs.Tryz.isAgg156
 z22:=Proofs.Tryz.sizeOf156
 v22:=Proofs.Tryz.zeroValue156 }
theorem Zo7:∃i z,Proofs.Tryz.prog.info? 166=some i/\i.zero=some z/\i.size=4/\i.bytes=32/\z.cells.size=4:=⟨_,_,rfl,rfl,rfl,rfl,rfl⟩
theorem Zjt:ZLw Proofs.Tryz.prog Z8 (.base (ZKH 4)):=by
 obtain⟨i,z,h1,h2,h3,h4,h5⟩:=Zo7
 refine ZnF (T:=166) (fun n c W=>Go.Proofs.AnyE.slices_Clone_nil Zo6 n c W) fun ad n c news W hl hn hc ho=>?_
 exact ZlO Zo6 i z 4 32 h1 h2 h3 h4 h5 (by decide) Proofs.Tryz.sizeOf166 ad n c news W hl (by unfold maxLen;omega) (by omega) hc ho
theorem ZaQ:Proofs.Tryz.prog.follows .mixedOrders=true:=by kernel_rfl
theorem Zo8:ZLx Proofs.Tryz.prog tl:=⟨⟨Proofs.Tryz.call109,Zjt⟩,Zp6⟩
theorem Zs0:TabOk Proofs.Tryz.prog Tb:=ZLy Zo8
theorem Zo9:ZLx Proofs.Tryz.prog t1:=⟨⟨Proofs.Tryz.call46,ZnE ZaQ Zs0 Proofs.Tryz.func46 Zeb⟩,Zo8⟩
theorem ZrS:TabOk Proofs.Tryz.prog T1:=ZLy Zo9
theorem ZpA:ZLx Proofs.Tryz.prog t3:=⟨⟨Proofs.Tryz.call58,ZnE ZaQ ZrS Proofs.Tryz.func58 Zau⟩,⟨Proofs.Tryz.call14,ZnE ZaQ ZrS Proofs.Tryz.func14 ZeX⟩,Zo9⟩
theorem ZrT:TabOk Proofs.Tryz.prog T3:=ZLy ZpA
theorem ZsU:ZLx Proofs.Tryz.prog tv:=⟨⟨Proofs.Tryz.call13,Zqi ZrT ZaQ Proofs.Tryz.func13⟩,ZpA⟩
theorem ZsV:ZLx Proofs.Tryz.prog tw:=⟨⟨Proofs.Tryz.call12,Zr9 ZrT ZaQ Proofs.Tryz.func12⟩,ZsU⟩
theorem TW_ok:TabOk Proofs.Tryz.prog TW:=ZLy ZsV
def mkEd(q:Nat × Int × Int × Int × B8):Ed:=⟨q.1,q.2.1,q.2.2.1,q.2.2.2.1,q.2.2.2.2⟩
theorem patchShares_run(ss:List B8)(l:List (Nat × Int × Int × Int × B8))(which a n:Int)(s:B8)(h1:∀s∈ss,s.length<=maxLen)(h2:ss.length<=maxLen)(h3:∀s∈l,s.2.2.2.2.length<=maxLen)(h4:l.length<=maxLen)
 (_h5:(Lit.int .i64 which).wf=true) (_h6:(Lit.int .i64 a).wf=true) (_h7:(Lit.int .i64 n).wf=true) (h8:s.length<=maxLen) :
 ∃st',S TW QS [.lit (ss.map .str),.lit (l.map fun q=>.agg [.int .u8 q.1,.int .i64 q.2.1,.int .i64 q.2.2.1,.int .i64 q.2.2.2.1,.str q.2.2.2.2]),.int .i64 which,.int .i64 a,.int .i64 n,.str s] .empty=some (.bool true,st'):=by
 have hm:maxLen<9223372036854775808:=by decide +kernel
 have:=Zcs ss (l.map mkEd) which a n s (by omega) (fun s hs=>by have:=h1 s hs;omega) (by rw[List.length_map];omega) (fun s hs=>by obtain⟨q,hq,rfl⟩:=List.mem_map.1 hs;have:=h3 q hq;simp only[mkEd];omega) (by omega) .empty
 rw[List.map_map]at this;exact⟨_,this⟩
end Go.Q15
