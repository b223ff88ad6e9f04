/- A part of the proof: PC, M11, M12, M13, M16, M2b, M19, PB, M14, M20, M21, RPa, RPb, PVa, PSh, RPc, RPd, M15, MW, RA, W5, M1b, RB, W6, M42, M17. No condition. -/
import Derived.Test.YtcdebbidfgmieaaGreatRpT6
set_option linter.unusedVariables false
set_option linter.unusedSimpArgs false
set_option maxHeartbeats 8000000
set_option maxRecDepth 100000
namespace Go.Q15
open Go Go.QAbs
variable {v v' vx z:AV}{c:Blk}{agg ro:Bool}{e:Env}{f:FuncId}{A:List (Bool × List Blk)}{es ys:LV}{is:List PI}{s:B8}{d g i ix jb jx k n o ob pl px ver w:Nat}{a x:Opd}{O:Orc}{st:St}{t:Tr}{Q:YD}
def VE(N:ZO)(t:Tr):Prop:=IsEmpty t\/Val N t
theorem IsEmpty.bytes(h:IsEmpty t):t.bytes=0:=by
 obtain⟨o,h',m,s,k⟩:=t;obtain⟨h1,h2,h3,h4,h5⟩:=h
 simp only[Tr.old,Tr.h,Tr.m,Tr.text,Tr.ks]at *
 subst h3 h4;rw[Tr.bytes,Tr.bytesO_getD,h5];rfl
theorem IsEmpty.txt(N:ZO)(h:IsEmpty t):t.txt N=[]:=by
 obtain⟨o,h',m,s,k⟩:=t;obtain⟨h1,h2,h3,h4,h5⟩:=h
 simp only[Tr.old,Tr.h,Tr.m,Tr.text,Tr.ks]at *
 subst h1 h4;rw[Tr.txt,Tr.txtO_getD,h5];rfl
theorem zero_empty:IsEmpty Tr.zero:=⟨rfl,rfl,rfl,rfl,rfl⟩
theorem VE.pos{N:ZO}(h:VE N t):t.Pos/\0<=t.bytes:=by
 rcases h with h|h
 ·refine⟨?_,by rw[h.bytes];omega⟩
  obtain⟨o,h',m,s,k⟩:=t;obtain⟨h1,h2,h3,h4,h5⟩:=h
  simp only[Tr.old,Tr.h,Tr.m,Tr.text,Tr.ks]at *
  subst h3
  exact⟨by decide,by rw[h5];decide,by rw[h5];intro t ht;simp at ht⟩
 ·exact⟨h.pos.1,by have:=h.pos.2;omega⟩
theorem VE.val{N:ZO}(h:VE N t)(hb:t.bytes≠0):Val N t:=by
 rcases h with h|h
 ·exact absurd h.bytes hb
 ·exact h
theorem VE.empty{N:ZO}(h:VE N t)(hb:t.bytes=0):IsEmpty t:=by
 rcases h with h|h
 ·exact h
 ·have:=h.pos.2;omega
theorem VE.len{N:ZO}(hN:GoodN N)(h:VE N t):((t.txt N).length:Int)=t.bytes:=by
 rcases h with h|h
 ·rw[h.txt,h.bytes];rfl
 ·exact ZJy hN h
noncomputable def concM(N:ZO)(x y:Tr):Tr :=
 if x.bytes=0 then y else if y.bytes=0 then x else grp (mergeF N (x.h+y.h) x y)
structure ConcOk(N:ZO)(x y t:Tr):Prop where
 ve:VE N t
 bytes:t.bytes=x.bytes+y.bytes
 txt:t.txt N=x.txt N++y.txt N
 h:t.h<=max x.h y.h+1
theorem ZDX{N:ZO}(hN:GoodN N){x y:Tr}(hx:VE N x)(hy:VE N y)(hb:x.bytes+y.bytes<=65536):ConcOk N x y (concM N x y):=by
 unfold concM
 split
 ·rename_i h
  exact⟨hy,by omega,by rw[(hx.empty h).txt];rfl,by omega⟩
 ·rename_i h
  split
  ·rename_i h2
   exact⟨hx,by omega,by rw[(hy.empty h2).txt,lN],by omega⟩
  ·rename_i h2
   have vx:=hx.val h;have vy:=hy.val h2;have hm:=Xv hN _ x y vx vy rfl
   generalize mergeF N (x.h+y.h) x y=r at *
   have hx0:=hx.pos.2;have hy0:=hy.pos.2
   match r,hm.len,hm with
   | [t],_,hm =>
    have a:=hm.bytes;have b:=hm.txt;simp only[Tr.bytesL,Tr.txtL,lN,Int.add_zero]at a b
    exact⟨.inr (hm.val t (by simp)),a,b,by have:=hm.h t (by simp);simp only[grp];omega⟩
   | [t,u],_,hm =>
    have a:=hm.bytes;have b:=hm.txt
    have ht:=hm.h t (by simp)
    have hu:=hm.h u (by simp)
    have hpt:=(hm.val t (by simp)).pos.2
    have hpu:=(hm.val u (by simp)).pos.2
    simp only[Tr.bytesL,Int.add_zero]at a
    have h13:=(hm.val t (by simp)).height hN (by omega)
    obtain⟨g1,g2,g3⟩:=ZCV (l:=[t,u]) (h:=max x.h y.h) (by simp) (by simp) (by omega) (fun w hw=>⟨hm.val w hw,hm.h w hw,hm.two rfl w hw⟩)
    exact⟨.inr g1,by rw[g3];simp only[Tr.bytesL];omega,by rw[ZGO N (by simp)];exact b,by omega⟩
   | [],h,_=>simp at h
   | _::_::_::_,h,_=>simp at h
def Qz:List Tr->Int->Nat × Int
 | [],a=>(0,a)
 | [_],a=>(0,a)
 | t::u::l,a=>if t.bytes<=a then ((Qz (u::l) (a-t.bytes)).1+1,(Qz (u::l) (a-t.bytes)).2) else (0,a)
theorem ZZ5:∀(l:List Tr) (a:Int),1<=l.length->(∀t∈l,0<=t.bytes)->0<=a->a<Tr.bytesL l->(Qz l a).1<l.length/\0<=(Qz l a).2/\(Qz l a).2=a-Tr.bytesL (l.take (Qz l a).1)/\∀t,l[(Qz l a).1]?=some t->(Qz l a).2<t.bytes
 | [],a,h,_,_,_=>by simp at h
 | [t],a,_,h,h0,h1=>by
  simp only[Tr.bytesL]at h1;simp only[Qz,List.take_zero,Tr.bytesL,List.length_singleton,List.getElem?_cons_zero,oJ]
  refine⟨by omega,h0,by omega,fun u hu=>by subst hu;omega⟩
 | t::u::l,a,_,h,h0,h1=>by
  rw[Qz]
  split
  ·rename_i hle
   rw[Tr.bytesL]at h1
   obtain⟨i1,i2,i3,i4⟩:=ZZ5 (u::l) (a-t.bytes) (by simp) (fun w hw=>h w (by simp[List.mem_cons.1 hw])) (by omega) (by omega)
   refine⟨by simp only[List.length_cons]at *;omega,i2,?_,?_⟩
   ·simp only[List.take_succ_cons,Tr.bytesL];omega
   ·intro w hw;exact i4 w (by simpa using hw)
  ·rename_i hlt
   have:=h t (by simp)
   refine⟨by simp,h0,by simp[Tr.bytesL],fun w hw=>?_⟩
   simp at hw;subst hw;omega
noncomputable def cutF(N:ZO):Nat->Tr->Int->Tr × Tr
 | 0,t,a =>
  if a=0 then (.zero,t) else if a=t.bytes then (t,.zero)
  else (J8 ((Qg N t).take a.toNat),J8 ((Qg N t).drop a.toNat))
 | n+1,t,a =>
  if a=0 then (.zero,t) else if a=t.bytes then (t,.zero)
  else if (Qz (childs N t) a).2=0 then (grp ((childs N t).take (Qz (childs N t) a).1),grp ((childs N t).drop (Qz (childs N t) a).1))
  else (concM N (grp ((childs N t).take (Qz (childs N t) a).1)) (cutF N n ((childs N t)[(Qz (childs N t) a).1]?.getD .zero) (Qz (childs N t) a).2).1,
   concM N (cutF N n ((childs N t)[(Qz (childs N t) a).1]?.getD .zero) (Qz (childs N t) a).2).2 (grp ((childs N t).drop ((Qz (childs N t) a).1+1))))
theorem ZMM{N:ZO}{l:List Tr}{h:Nat}(h2:l.length<=4)(hh:h+1<=16)(hl:∀t∈l,Val N t/\t.h=h/\Big t):VE N (grp l)/\(grp l).h<=h+1/\(grp l).bytes=Tr.bytesL l/\(grp l).txt N=Tr.txtL N l/\(l.length<=1->(grp l).h<=h):=by
 match l,h2,hl with
 | [],_,_=>exact⟨.inl zero_empty,by simp[grp,Tr.zero,Tr.h],rfl,rfl,fun _=>by simp[grp,Tr.zero,Tr.h]⟩
 | [t],_,hl=>exact⟨.inr (hl t (by simp)).1,by have:=(hl t (by simp)).2.1;simp only[grp];omega,by simp[grp,Tr.bytesL],by simp[grp,Tr.txtL],fun _=>by have:=(hl t (by simp)).2.1;simp only[grp];omega⟩
 | t::u::r,h2,hl =>
  obtain⟨a,b,c⟩:=ZCV (l:=t::u::r) (by simp) h2 hh hl
  exact⟨.inr a,by omega,c,ZGO N (by simp),fun q=>by simp at q⟩
structure CutOk(N:ZO)(t:Tr)(a:Int)(q:Tr × Tr):Prop where
 l:VE N q.1
 r:VE N q.2
 lb:q.1.bytes=a
 rb:q.2.bytes=t.bytes-a
 lt:q.1.txt N=(t.txt N).take a.toNat
 rt:q.2.txt N=(t.txt N).drop a.toNat
 lh:q.1.h<=t.h
 rh:q.2.h<=t.h
theorem Zha{N:ZO}(hN:GoodN N){x y:Tr}(hx:Val N x)(hy:Val N y)(h:y.h<x.h)(hc:(childs N x).length<=3):(mergeF N (x.h+y.h) x y).length=1:=by
 obtain⟨n,hn⟩:∃n,x.h+y.h=n+1:=⟨x.h+y.h-1,by omega⟩
 rw[hn,mergeF,if_neg (by omega),if_pos h]
 obtain⟨c1,c2,c3,c4⟩:=Jz hN hx (by omega)
 generalize childs N x=l at *
 have hs:=ZML (l:=l) (z:=Tr.zero) (by omega)
 have hum:l[l.length-1]?.getD Tr.zero∈l:=by rw[jE (by omega)];simp
 generalize l[l.length-1]?.getD Tr.zero=u at *
 obtain⟨u1,u2,u3⟩:=c1 u hum
 have hm:=Xv hN n u y u1 hy (by omega)
 generalize mergeF N n u y=r at *
 have hr:r.length<=2:=by rcases hm.len with w|w<;>omega
 unfold foldM
 rw[if_pos (by rw[lL,List.length_take];omega)]
 rfl
theorem Zfz{N:ZO}(hN:GoodN N){x y:Tr}(hx:Val N x)(hy:Val N y)(h:x.h<y.h)(hc:(childs N y).length<=3):(mergeF N (x.h+y.h) x y).length=1:=by
 obtain⟨n,hn⟩:∃n,x.h+y.h=n+1:=⟨x.h+y.h-1,by omega⟩
 rw[hn,mergeF,if_neg (by omega),if_neg (by omega)]
 obtain⟨c1,c2,c3,c4⟩:=Jz hN hy (by omega)
 generalize childs N y=l at *
 have hum:l[0]?.getD Tr.zero∈l:=by rw[jE (by omega)];simp
 generalize l[0]?.getD Tr.zero=u at *
 obtain⟨u1,u2,u3⟩:=c1 u hum
 have hm:=Xv hN n x u hx u1 (by omega)
 generalize mergeF N n x u=r at *
 have hr:r.length<=2:=by rcases hm.len with w|w<;>omega
 unfold foldM
 rw[if_pos (by rw[lL,List.length_drop];omega)]
 rfl
theorem ZZ6(N:ZO){l:List Tr}(h:2<=l.length):childs N (grp l)=l:=by
 rw[ZGN h];rfl
theorem ZSn{N:ZO}(hN:GoodN N){x y:Tr}(hx:Val N x)(hy:Val N y)(h:(mergeF N (x.h+y.h) x y).length=1):(grp (mergeF N (x.h+y.h) x y)).h=max x.h y.h:=by
 have hm:=Xv hN _ x y hx hy rfl
 match mergeF N (x.h+y.h) x y,h,hm with
 | [t],_,hm=>exact hm.h t (by simp)
theorem ZlP{N:ZO}(hN:GoodN N){l:List Tr}{y:Tr}{h:Nat}(h3:l.length<=3)(hh:h+1<=16)(hl:∀t∈l,Val N t/\t.h=h/\Big t)(hy:VE N y)(hyh:y.h<=h)(hb:(grp l).bytes+y.bytes<=65536):(concM N (grp l) y).h<=h+1:=by
 obtain⟨g1,g2,g3,g4,g5⟩:=ZMM (by omega) hh hl
 rcases Nat.lt_or_ge 1 l.length with q|q
 ·unfold concM
  split
  ·omega
  ·split
   ·exact g2
   ·rename_i a b
    have vg:=g1.val a;have vy:=hy.val b
    have hgh:(grp l).h=h+1:=(ZCV (by omega) (by omega) hh hl).2.1
    have h1:=Zha hN vg vy (by omega) (by rw[ZZ6 N (by omega)];exact h3)
    rw[ZSn hN vg vy h1];omega
 ·have:=g5 q
  have:=(ZDX hN g1 hy hb).h
  omega
theorem ZjD{N:ZO}(hN:GoodN N){l:List Tr}{x:Tr}{h:Nat}(h3:l.length<=3)(hh:h+1<=16)(hl:∀t∈l,Val N t/\t.h=h/\Big t)(hx:VE N x)(hxh:x.h<=h)(hb:x.bytes+(grp l).bytes<=65536):(concM N x (grp l)).h<=h+1:=by
 obtain⟨g1,g2,g3,g4,g5⟩:=ZMM (by omega) hh hl
 rcases Nat.lt_or_ge 1 l.length with q|q
 ·unfold concM
  split
  ·exact g2
  ·split
   ·omega
   ·rename_i a b
    have vg:=g1.val b;have vx:=hx.val a
    have hgh:(grp l).h=h+1:=(ZCV (by omega) (by omega) hh hl).2.1
    have h1:=Zfz hN vx vg (by omega) (by rw[ZZ6 N (by omega)];exact h3)
    rw[ZSn hN vx vg h1];omega
 ·have:=g5 q
  have:=(ZDX hN hx g1 hb).h
  omega
theorem ZMN{N:ZO}(hN:GoodN N):∀ {l:List Tr},(∀t∈l,Val N t)->((Tr.txtL N l).length:Int)=Tr.bytesL l
 | [],_=>rfl
 | t::l,h=>by
  have h1:=ZJy hN (h t (by simp))
  have h2:=ZMN hN (l:=l) (fun u hu=>h u (by simp[hu]))
  rw[Tr.txtL,Tr.bytesL,lL];omega
theorem ZOw{N:ZO}(hN:GoodN N):∀n t a,VE N t->t.h=n->0<=a->a<=t.bytes->t.bytes<=65536->CutOk N t a (cutF N n t a):=by
 intro n
 induction n with
 | zero =>
  intro t a ht hh h0 h1 hb;have htl:=ht.len hN;rw[cutF]
  split
  ·rename_i h;subst h
   exact⟨.inl zero_empty,ht,rfl,by simp,rfl,rfl,by simp[Tr.zero,Tr.h],Nat.le_refl _⟩
  ·split
   ·rename_i h;subst h
    refine⟨ht,.inl zero_empty,rfl,by simp[zero_empty.bytes],?_,?_,Nat.le_refl _,by simp[Tr.zero,Tr.h]⟩
    ·rw[List.take_of_length_le (by omega)]
    ·rw[List.drop_of_length_le (by omega)];rfl
   ·rename_i q1 q2
    have vt:=ht.val (by omega)
    obtain⟨l1,l2⟩:=vt.line hh
    have e1:((Qg N t).take a.toNat).length=a.toNat:=by rw[List.length_take];omega
    have e2:((Qg N t).drop a.toNat).length=(Qg N t).length-a.toNat:=by rw[List.length_drop]
    unfold ZB0 at l2
    refine⟨.inr (ZOu ⟨by omega,by omega⟩),.inr (ZOu ⟨by omega,by omega⟩),?_,?_,?_,?_,by simp[J8,Tr.h],by simp[J8,Tr.h]⟩
    ·simp only[ZBF];omega
    ·simp only[ZBF];omega
    ·simp only[ZOv,ZJU vt hh]
    ·simp only[ZOv,ZJU vt hh]
 | succ n ih =>
  intro t a ht hh h0 h1 hb;have htl:=ht.len hN;rw[cutF]
  split
  ·rename_i h;subst h
   exact⟨.inl zero_empty,ht,rfl,by simp,rfl,rfl,by simp[Tr.zero,Tr.h],Nat.le_refl _⟩
  ·split
   ·rename_i h;subst h
    refine⟨ht,.inl zero_empty,rfl,by simp[zero_empty.bytes],?_,?_,Nat.le_refl _,by simp[Tr.zero,Tr.h]⟩
    ·rw[List.take_of_length_le (by omega)]
    ·rw[List.drop_of_length_le (by omega)];rfl
   ·rename_i q1 q2
    have vt:=ht.val (by omega)
    have h16:=vt.h16
    obtain⟨c1,c2,c3,c4⟩:=Jz hN vt (by omega)
    have htx:=ZBE hN vt (by omega)
    generalize childs N t=l at *
    obtain⟨s1,s2,s3,s4⟩:=ZZ5 l a (by omega) (fun u hu=>by have:=(c1 u hu).1.pos.2;omega) h0 (by omega)
    generalize hk:(Qz l a).1=k at *
    generalize hb2:(Qz l a).2=b at *
    have hl:∀u∈l,Val N u/\u.h=n/\Big u:=fun u hu=>⟨(c1 u hu).1,by have:=(c1 u hu).2.1;omega,(c1 u hu).2.2⟩
    have ltk:(l.take k).length=k:=by rw[List.length_take];omega
    have ldk:(l.drop k).length=l.length-k:=by rw[List.length_drop]
    obtain⟨a1,a2,a3,a4,a5⟩:=ZMM (l:=l.take k) (by omega) (show n+1<=16 by omega) (fun u hu=>hl u (List.mem_of_mem_take hu))
    obtain⟨b1,b2,b3,b4,b5⟩:=ZMM (l:=l.drop k) (by omega) (show n+1<=16 by omega) (fun u hu=>hl u (List.mem_of_mem_drop hu))
    have hsum:Tr.bytesL l=Tr.bytesL (l.take k)+Tr.bytesL (l.drop k):=by rw[<- Tr.bytesL_append,List.take_append_drop]
    have htt:Tr.txtL N l=Tr.txtL N (l.take k)++Tr.txtL N (l.drop k):=by rw[<- Tr.txtL_append,List.take_append_drop]
    have hlt:=ZMN hN (l:=l.take k) (fun u hu=>(hl u (List.mem_of_mem_take hu)).1)
    split
    ·rename_i hz
     refine⟨a1,b1,by simp only[a3];omega,by simp only[b3];omega,?_,?_,by simp only;omega,by simp only;omega⟩
     ·simp only[a4]
      rw[htx,htt,List.take_append_of_le_length (by omega),List.take_of_length_le (l:=Tr.txtL N (l.take k)) (by omega)]
     ·simp only[b4]
      rw[htx,htt,List.drop_append_of_le_length (by omega),List.drop_of_length_le (l:=Tr.txtL N (l.take k)) (by omega)];rfl
    ·rename_i hz
     obtain⟨u,hu⟩:∃u,l[k]?=some u:=⟨l[k],by simp[s1]⟩
     rw[hu];simp only[Option.getD_some];obtain⟨u1,u2,u3⟩:=hl u (jM hu);have hub:=s4 u hu
     have ldk1:(l.drop (k+1)).length=l.length-(k+1):=by rw[List.length_drop]
     have hdk:l.drop k=u::l.drop (k+1):=by
      have hlt:k<l.length:=s1;rw[List.drop_eq_getElem_cons hlt]
      congr 1
      rw[jE hlt]at hu;exact Option.some.inj hu
     rw[hdk]at hsum htt;rw[Tr.bytesL]at hsum;rw[Tr.txtL]at htt
     obtain⟨d1,d2,d3,d4,d5⟩:=ZMM (l:=l.drop (k+1)) (by omega) (show n+1<=16 by omega) (fun w hw=>hl w (List.mem_of_mem_drop hw))
     have p1:=Tr.bytesL_nonneg (l:=l.take k) (fun w hw=>by have:=(hl w (List.mem_of_mem_take hw)).1.pos.2;omega)
     have p2:=Tr.bytesL_nonneg (l:=l.drop (k+1)) (fun w hw=>by have:=(hl w (List.mem_of_mem_drop hw)).1.pos.2;omega)
     have hc:=ih u b (.inr u1) u2 s2 (by omega) (by omega)
     generalize cutF N n u b=r at *
     have hut:=ZJy hN u1
     have k1:=ZDX hN a1 hc.l (by rw[hc.lb,a3];omega)
     have k2:=ZDX hN hc.r d1 (by rw[hc.rb,d3];omega)
     refine⟨k1.ve,k2.ve,by rw[k1.bytes,hc.lb,a3];omega,by rw[k2.bytes,hc.rb,d3];omega,?_,?_,?_,?_⟩
     ·rw[k1.txt,a4,hc.lt,htx,htt,List.take_append,List.take_of_length_le (l:=Tr.txtL N (l.take k)) (by omega),List.take_append_of_le_length (by omega)]
      congr 2;omega
     ·rw[k2.txt,d4,hc.rt,htx,htt,List.drop_append,List.drop_of_length_le (l:=Tr.txtL N (l.take k)) (by omega),List.drop_append_of_le_length (by omega)]
      simp only[lE]
      congr 2;omega
     ·have:=ZlP hN (l:=l.take k) (by omega) (show n+1<=16 by omega) (fun w hw=>hl w (List.mem_of_mem_take hw)) hc.l (by have:=hc.lh;omega) (by rw[hc.lb,a3];omega)
      simp only;omega
     ·have:=ZjD hN (l:=l.drop (k+1)) (by omega) (show n+1<=16 by omega) (fun w hw=>hl w (List.mem_of_mem_drop hw)) hc.r (by have:=hc.rh;omega) (by rw[hc.rb,d3];omega)
      simp only;omega
theorem Val.kindNe{N:ZO}(hv:Val N t):∃k:Int,k≠1/\∀st,S Tb Qn [t.av] st=some (.int .i64 k,st):=by
 rcases hv.kind with h|h|h
 ·exact⟨2,by decide,fun st=>ZJs _ h st⟩
 ·exact⟨3,by decide,fun st=>ZJt _ h st⟩
 ·exact⟨4,by decide,fun st=>ZGM _ h st⟩
theorem ZOx{N:ZO}(hN:GoodN N){lv:Nat}(hr:Rd st lv ix N){x y:Tr}(hx:VE N x)(hy:VE N y):
 S Tb Y4 [.ptr lv ix 0 0 0,x.av,y.av] st=some (.tup [(concM N x y).av,.int .i64 0],st):=by
 refine QK Y (fun A hA=>?_)
 have hrp:=fun L=>hr.push hA (ro:=false) (L:=L)
 unfold concM
 rcases hx with hx|hx
 ·rw[if_pos hx.bytes]
  have hK:=fun st=>ZDW x hx st
  repeat'(first|refine ZE ?_|refine ZD ?_|refine ZF Y ?_|refine ZB Y ?_|refine ZC ?_|(refine cm0 Y Y Y ?_ ?_<;>intro _<;>try omega)|refine ZS Y ?_|refine Zn Y Y Y ?_|refine ZV Y Y Y (Zp _) ?_|refine Zy Y Y Y (QQ _ _ _) (Qx _ _) Y ?_|refine Z0 Y (Z6 _) (QJ _) ?_|refine ZA Y Y (by first|rfl|(simp only[lE,lN,lC,Zg,ZX,ZY];first|done|rfl)) (hK _) ?_|refine ZP ?_|refine ZL ?_|refine Zb ?_)
  all_goals try omega
  exact ZD5 hA (.inr Y) Y Y Y Y
 ·rw[if_neg (by have:=hx.pos.2;omega)]
  obtain⟨k,hk1,hK⟩:=hx.kindNe
  rcases hy with hy|hy
  ·rw[if_pos hy.bytes]
   have hK2:=fun st=>ZDW y hy st
   repeat'(first|refine ZE ?_|refine ZD ?_|refine ZF Y ?_|refine ZB Y ?_|refine ZC ?_|(refine cm0 Y Y Y ?_ ?_<;>intro _<;>try omega)|refine ZS Y ?_|refine ZG Y ?_|refine Zn Y Y Y ?_|refine ZV Y Y Y (Zp _) ?_|refine Zy Y Y Y (QQ _ _ _) (Qx _ _) Y ?_|refine Z0 Y (Z6 _) (QJ _) ?_|refine ZA Y Y (by first|rfl|(simp only[lE,lN,lC,Zg,ZX,ZY];first|done|rfl)) (hK _) ?_|refine ZA Y Y (by first|rfl|(simp only[lE,lN,lC,Zg,ZX,ZY];first|done|rfl)) (hK2 _) ?_|refine ZI ?_|refine ZP ?_|refine ZL ?_|refine Zb ?_)
   all_goals try omega
   exact ZD5 hA (.inr Y) Y Y Y Y
  ·rw[if_neg (by have:=hy.pos.2;omega)]
   obtain⟨k2,hk2,hK2⟩:=hy.kindNe
   have hM:=fun L=>ZqC hN (x.h+y.h) (hrp L) hx hy rfl
   have hMo:=Xv hN _ x y hx hy rfl
   generalize mergeF N (x.h+y.h) x y=r at *
   have hG:=fun st=>ZAK (v:=.lit (r.map Tr.av)) (l:=r) (st:=st) (by rcases hMo.len with w|w<;>omega) (fun t ht=>by have:=hMo.h t ht;have:=hx.h16;have:=hy.h16;omega) (.lit _)
   repeat'(first|refine ZE ?_|refine ZD ?_|refine ZF Y ?_|refine Zr Y Y ?_|refine ZB Y ?_|refine ZC ?_|(refine cm0 Y Y Y ?_ ?_<;>intro _<;>try omega)|(refine cm0 Y Y Y ?_ ?_<;>intro _<;>try omega)|refine ZG Y ?_|refine Zn Y Y Y ?_|refine ZV Y Y Y (Zp _) ?_|refine Zy Y Y Y (QQ _ _ _) (Qx _ _) Y ?_|refine Z0 Y (Z6 _) (QJ _) ?_|refine ZA Y Y (by first|rfl|(simp only[lE,lN,lC,Zg,ZX,ZY];first|done|rfl)) (hK _) ?_|refine ZA Y Y (by first|rfl|(simp only[lE,lN,lC,Zg,ZX,ZY];first|done|rfl)) (hK2 _) ?_|refine ZA Y Y (by first|rfl|(simp only[lE,lN,lC,Zg,ZX,ZY];first|done|rfl)) (hM _) ?_|refine ZA Y Y (by first|rfl|(simp only[lE,lN,lC,Zg,ZX,ZY];first|done|rfl)) (hG _) ?_|refine ZI ?_|refine ZP ?_|refine ZL ?_)
   all_goals try omega
   exact ZD5 hA (.inr Y) Y Y Y Y
section
variable {O:Orc}{k:List Fr}{Q:YD}{e:Env}{A:List (Bool × List Blk)}{L:List Blk}{keep:List Nat}{is:List PI}{d:Nat}
theorem ZE5{b:Opd}{vb ib:Nat}{x:AV}(ha:Ze e a=some (.ptr A.length ix ver i o))(hb:Ze e b=some (.ptr A.length jx vb ib ob))(hne:Nat.beq ix jx=false)
 (hg:L[ix]?=some (Blk.arr w ver es)) (hx:es[i]?=some x) (hv:JL x agg o n=some v) (h:Is O is keep k Q ((d,v)::e) ⟨A,false,L⟩):Is O (⟨some d,none,false,.w (.hide [b]) (.ld agg n a)⟩::is) keep k Q e ⟨A,false,L⟩:=by
 refine Zi3 ?_ h
 have hp:XR (Xk e [b]) A.length ix=false:=by
  have hxy:ix≠jx:=fun q=>by subst q;simp at hne
  simp[XR,Xk,ZH hb,ZAy,hxy]
 have hgt:(St.hide (XR (Xk e [b])) ⟨A,false,L⟩).get A.length ix=some (Blk.arr w ver es):=by
  rw[ZAf,hp,St.get_cur,hg];rfl
 simp only[QC,PO.reads,if_true,evalPO,ZH ha,loadP,hgt,ZES,hx,hv,oS,Qd,QU]
theorem ZDY{y:AV}(hg:L[ix]?=some (Blk.arr w ver es))(ha:Ze e a=some (.ptr A.length ix ver i o))(hx:Ze e x=some v)(hy:es[i]?=some y)(him:imm 6 v=true)
 (hs:ZZ QD (A.length+1) ⟨A,false,L⟩ v=some (v,⟨A,false,L⟩)) (hv:(JP w y o n v).bind Y7=some v') (h:Is O is keep k Q e ⟨A,false,L.set ix (Blk.arr w ver (es.set i v'))⟩):Is O (⟨none,none,false,.w (.plain a) (.st n a x)⟩::is) keep k Q e ⟨A,false,L⟩:=by
 have hlt:ix<L.length:=by
  rw[List.getElem?_eq_some_iff]at hg;exact hg.1
 have hv':JP w y o n v=some v':=by
  simp only[oB]at hv;obtain⟨u,h1,h2⟩:=hv;rw[h1,ZAZ h2]
 refine Z4 (od:=none) (v:=.undef) (st':=⟨A,false,L.set ix (Blk.arr w ver (es.set i v'))⟩) ?_ h
 have hsb:ZMW (.ptr A.length ix ver i o) (.ptr A.length ix ver i o)=true:=by simp[ZMW]
 simp only[Zi,QC,ZPJ,ZH ha,ZH hx,hsb,him,and_self,if_true];simp only[evalPO,ZH ha,ZH hx,ZBo,hs,oS,ZFB,St.get_cur,hg,vis,ZAM,if_true,hy,hv',St.put,if_false,jB,if_pos hlt,ZBW]
end
theorem ZGP{L:List Blk}{x:Ex}{b b2 c ix2 ver2 w2:Nat}{t2:Tr}{k:IntKind}{n:Int}{u:AV}(hA:A=st.A++[(st.ro,st.L)])(hx:x=.norm\/x=.ret)(ht:J7 e b=some (.ptr A.length ix ver 0 0))(hg:L[ix]?=some (.arr w ver [t.av]))
 (ht2:J7 e b2=some (.ptr A.length ix2 ver2 0 0)) (hg2:L[ix2]?=some (.arr w2 ver2 [t2.av])) (hc:J7 e c=some (.int k n)) (hu:.tup [t.av,t2.av,.int k n]=u):Qj false [.c b true 7,.c b2 true 7,.s c] (x,e,⟨A,false,L⟩)=some (u,st):=by
 subst hu;refine ZEE (v:=.tup [t.av,t2.av,.int k n]) (ro:=false) (L':=L) hA hx ?_ ?_ Y
 ·simp only[QT,ZEC,ZJu ht hg,ZJu ht2 hg2,oS]
  simp only[ZBp,QM hc,oS,Option.map_some,ZGd]
 ·show (mapSt (ZZ 5 A.length) _ _).bind Zd3=_
  rw[mapSt,ZOt 3,oS,mapSt,ZOt 3];rfl
theorem Zq3{N:ZO}(hN:GoodN N):∀(n:Nat) {st:St} {lv ix:Nat} (hr:Rd st lv ix N) {t:Tr} (ht:VE N t) (hn:t.h=n) (a:Int) (h0:0<=a) (h1:a<=t.bytes) (hb:t.bytes<=65536),
 S Tb ZBA [.ptr lv ix 0 0 0,t.av,.int .i64 a] st=some (.tup [(cutF N n t a).1.av,(cutF N n t a).2.av,.int .i64 0],st):=by
 intro n
 induction n with
 | zero =>
  intro st lv ix hr t ht hn a h0 h1 hb
  refine QK Y (fun A hA=>?_)
  have hrp:=fun L=>hr.push hA (ro:=false) (L:=L)
  have hB:=fun st=>ZCU t ht.pos.1 (by omega) st
  rw[cutF]
  by_cases ha:a=0
  ·rw[if_pos ha]
   repeat'(first|refine ZE ?_|refine ZD ?_|refine ZF Y ?_|refine ZB Y ?_|refine ZC ?_|(refine cm0 Y Y Y ?_ ?_<;>intro _<;>try omega)|refine ZS Y ?_|refine Zw Y Y Y ?_|refine Zn Y Y Y ?_|refine Zy Y Y Y (QQ _ _ _) (Qx _ _) Y ?_|refine Z0 Y (Z6 _) (QJ _) ?_|refine ZE5 Y Y Y Y Y (Zp _) ?_|refine ZDY Y Y Y Y Y Y Y ?_|refine ZP ?_|refine ZL ?_|refine Zb ?_)
   all_goals try omega
   exact ZGP (t:=.zero) hA (.inr Y) Y Y Y Y Y Y
  ·rw[if_neg ha]
   by_cases ha2:a=t.bytes
   ·rw[if_pos ha2]
    repeat'(first|refine ZE ?_|refine ZD ?_|refine ZF Y ?_|refine ZB Y ?_|refine ZC ?_|(refine cm0 Y Y Y ?_ ?_<;>intro _<;>try omega)|refine ZS Y ?_|refine ZG Y ?_|refine Zw Y Y Y ?_|refine Zn Y Y Y ?_|refine Zy Y Y Y Y Y Y ?_|refine ZV Y Y Y (Zp _) ?_|refine Zy Y Y Y (QQ _ _ _) (Qx _ _) Y ?_|refine Z0 Y (Z6 _) (QJ _) ?_|refine ZA Y Y (by first|rfl|(simp only[lE,lN,lC,Zg,ZX,ZY];first|done|rfl)) (hB _) ?_|refine ZI ?_|refine ZP ?_|refine ZL ?_|refine Zb ?_)
    all_goals try omega
    exact ZGP (t2:=.zero) hA (.inr Y) Y Y Y Y Y Y
   ·rw[if_neg ha2]
    have hv:=ht.val (by omega)
    have hl:=hv.line hn
    have hL:=fun L=>Zfy (hrp L) hv
    have hC:=fun st=>Zsg (Qg N t) a st
    rw[<- ZkC hl.2 (by omega)]at hC
    generalize Qg N t=s at *
    repeat'(first|refine ZE ?_|refine ZD ?_|refine ZF Y ?_|refine ZU Y Y ?_|refine Zr Y Y ?_|refine ZB Y ?_|refine ZC ?_|(refine cm0 Y Y Y ?_ ?_<;>intro _<;>try omega)|(refine cm0 Y Y Y ?_ ?_<;>intro _<;>try omega)|refine ZS Y ?_|refine ZG Y ?_|refine Zw Y Y Y ?_|refine Zn Y Y Y ?_|refine Zy Y Y Y Y Y Y ?_|refine ZV Y Y Y (Zp _) ?_|refine Z0 Y (Z6 _) (QJ _) ?_|refine ZV Y Y Y (Xh _) ?_|refine ZA Y Y (by first|rfl|(simp only[lE,lN,lC,Zg,ZX,ZY];first|done|rfl)) (hB _) ?_|refine ZA Y Y (by first|rfl|(simp only[lE,lN,lC,Zg,ZX,ZY];first|done|rfl)) (hL _) ?_|refine ZA Y Y (by first|rfl|(simp only[lE,lN,lC,Zg,ZX,ZY];first|done|rfl)) (hC _) ?_|refine ZI ?_|refine ZP ?_|refine ZL ?_|refine Zb ?_)
    all_goals try omega
    exact ZGP (t:=J8 (s.take a.toNat)) (t2:=J8 (s.drop a.toNat)) hA (.inr Y) Y Y Y Y Y Y
 | succ n ih =>
  intro st lv ix hr t ht hn a h0 h1 hb
  refine QK Y (fun A hA=>?_)
  have hrp:=fun L=>hr.push hA (ro:=false) (L:=L)
  have hB:=fun st=>ZCU t ht.pos.1 (by omega) st
  rw[cutF]
  by_cases ha:a=0
  ·rw[if_pos ha]
   repeat'(first|refine ZE ?_|refine ZD ?_|refine ZF Y ?_|refine ZB Y ?_|refine ZC ?_|(refine cm0 Y Y Y ?_ ?_<;>intro _<;>try omega)|refine ZS Y ?_|refine Zw Y Y Y ?_|refine Zn Y Y Y ?_|refine Zy Y Y Y (QQ _ _ _) (Qx _ _) Y ?_|refine Z0 Y (Z6 _) (QJ _) ?_|refine ZE5 Y Y Y Y Y (Zp _) ?_|refine ZDY Y Y Y Y Y Y Y ?_|refine ZP ?_|refine ZL ?_|refine Zb ?_)
   all_goals try omega
   exact ZGP (t:=.zero) hA (.inr Y) Y Y Y Y Y Y
  ·rw[if_neg ha]
   by_cases ha2:a=t.bytes
   ·rw[if_pos ha2]
    repeat'(first|refine ZE ?_|refine ZD ?_|refine ZF Y ?_|refine ZB Y ?_|refine ZC ?_|(refine cm0 Y Y Y ?_ ?_<;>intro _<;>try omega)|refine ZS Y ?_|refine ZG Y ?_|refine Zw Y Y Y ?_|refine Zn Y Y Y ?_|refine Zy Y Y Y Y Y Y ?_|refine ZV Y Y Y (Zp _) ?_|refine Zy Y Y Y (QQ _ _ _) (Qx _ _) Y ?_|refine Z0 Y (Z6 _) (QJ _) ?_|refine ZA Y Y (by first|rfl|(simp only[lE,lN,lC,Zg,ZX,ZY];first|done|rfl)) (hB _) ?_|refine ZI ?_|refine ZP ?_|refine ZL ?_|refine Zb ?_)
    all_goals try omega
    exact ZGP (t2:=.zero) hA (.inr Y) Y Y Y Y Y Y
   ·rw[if_neg ha2]
    have vt:=ht.val (by omega)
    have h16:=vt.h16
    obtain⟨c1,c2,c3,c4⟩:=Jz hN vt (by omega)
    have hC:=fun L=>ZBD (hrp L) vt (by omega)
    generalize childs N t=l at *
    have hl:∀u∈l,Val N u/\u.h=n/\Big u:=fun u hu=>⟨(c1 u hu).1,by have:=(c1 u hu).2.1;omega,(c1 u hu).2.2⟩
    have hpos:∀u∈l,0<=u.bytes:=fun u hu=>by have:=(hl u hu).1.pos.2;omega
    obtain⟨s1,s2,s3,s4⟩:=ZZ5 l a (by omega) hpos h0 (by omega)
    have key:∀k Q p6 p7 L,
     (Rk (S Tb) k Q (.ex 0) [(0,.ptr lv ix 0 0 0),(2,.int .i64 (Qz l a).2),(6,.ptr A.length p6 0 0 0),(7,.ptr A.length p7 0 0 0),(13,.lit (l.map Tr.av)),(14,.int .i64 (Qz l a).1),(77,.bool false)] ⟨A,false,L⟩) ->
     Ru (S Tb) (.loop ZKx) k Q [(0,.ptr lv ix 0 0 0),(2,.int .i64 a),(6,.ptr A.length p6 0 0 0),(7,.ptr A.length p7 0 0 0),(13,.lit (l.map Tr.av)),(14,.int .i64 0)] ⟨A,false,L⟩:=by
     intro k Q p6 p7 L hex
     refine Zt (α:=Nat × Int) (fun p=>[(0,.ptr lv ix 0 0 0),(2,.int .i64 p.2),(6,.ptr A.length p6 0 0 0),(7,.ptr A.length p7 0 0 0),(13,.lit (l.map Tr.av)),(14,.int .i64 p.1)]) (fun p=>⟨A,false,L⟩)
      (fun p=>p.1<l.length/\0<=p.2/\p.2<=a/\(Qz l a).1=p.1+(Qz (l.drop p.1) p.2).1/\(Qz l a).2=(Qz (l.drop p.1) p.2).2) (fun p=>l.length-p.1) (0,a) rfl rfl ⟨by simp only;omega,h0,Int.le_refl _,by simp,by simp⟩ ?_
     rintro⟨i,b⟩ ⟨i1,i2,i3,i4,i5⟩
     simp only at i1 i2 i3 i4 i5 ⊢
     have hu:l[i]?=some l[i]:=by simp[i1]
     generalize l[i]=u at hu;have hum:=jM hu;have hub:=hpos u hum
     have hu16:u.bytes<=65536:=by
      have e:=hu
      have e2:Tr.bytesL l=Tr.bytesL (l.take i)+(u.bytes+Tr.bytesL (l.drop (i+1))):=by
       conv=>lhs;rw[<- List.take_append_drop (i+1) l,ZW hu,Tr.bytesL_append,Tr.bytesL_append]
       simp[Tr.bytesL];omega
      have:=Tr.bytesL_nonneg (l:=l.take i) (fun w hw=>hpos w (List.mem_of_mem_take hw))
      have:=Tr.bytesL_nonneg (l:=l.drop (i+1)) (fun w hw=>hpos w (List.mem_of_mem_drop hw))
      omega
     have hBu:∀w,l[((i:Nat):Int).toNat]?=some w->∀st,S Tb Qu [w.av] st=some (.int .i64 u.bytes,st):=by
      intro w hw st;have hw2:l[i]?=some w:=hw;rw[hu]at hw2
      have:=Option.some.inj hw2
      subst this
      exact ZCU u (hl u hum).1.pos.1 (by omega) st
     have hd:l.drop i=u::l.drop (i+1):=by
      rw[List.drop_eq_getElem_cons i1]
      congr 1
      rw[jE i1]at hu;exact Option.some.inj hu
     repeat'(first|refine ZE ?_|refine ZD ?_|refine ZF Y ?_|refine QB Y ?_|refine Q6 Y Y ?_|refine Zl Y Y Y Y ?_|refine ZB Y ?_|refine ZC ?_|refine QL Y ?_|(refine cm0 Y Y Y ?_ ?_<;>intro _<;>try omega)|(refine cm0 Y Y Y ?_ ?_<;>intro _<;>try omega)|refine ZS Y ?_|refine ZG Y ?_|refine Zj Y Y (by omega) ?_|refine YE Y Y (by omega) ?_|refine YQ Y Y (by omega) Z6 (fun _ _=>?_)|refine QF Y (Zp _) ?_|refine ZA Y Y (by first|rfl|(simp only[lE,lN,lC,Zg,ZX,ZY];first|done|rfl)) (hBu _ (by assumption) _) ?_|refine ZI ?_|refine Zo ?_|refine ZJ ?_|refine Zc ?_|refine Zz ?_|refine Z7 ?_|refine Zk ?_)
     all_goals try omega
     ·rename_i g1 g2 g3 g4 g5 g6
      have hne:l.drop (i+1)≠[]:=by
       intro q
       have:=congrArg List.length q
       rw[List.length_drop]at this
       simp at this;omega
      have hsk:Qz (l.drop i) b=((Qz (l.drop (i+1)) (b-u.bytes)).1+1,(Qz (l.drop (i+1)) (b-u.bytes)).2):=by
       rw[hd]
       cases hq:l.drop (i+1) with
       | nil=>exact absurd hq hne
       | cons v r=>rw[Qz,if_pos (by omega)]
      refine⟨(i+1,b-u.bytes),⟨rfl,rfl⟩,⟨by simp only;omega,by simp only;omega,by simp only;omega,?_,?_⟩,by simp only;omega⟩
      ·simp only[i4,hsk];omega
      ·simp only[i5,hsk]
     ·have hsk : Qz (l.drop i) b = (0, b) := by
       rw[hd]
       cases hq:l.drop (i+1) with
       | nil=>rfl
       | cons v r=>rw[Qz,if_neg (by omega)]
      rw[i4,i5,hsk]at hex;exact hex
     ·have hq:l.drop (i+1)=[]:=List.drop_of_length_le (by omega)
      have hsk:Qz (l.drop i) b=(0,b):=by rw[hd,hq];rfl
      rw[i4,i5,hsk]at hex;exact hex
    repeat'(first|refine ZE ?_|refine ZD ?_|refine ZF Y ?_|refine ZU Y Y ?_|refine Zr Y Y ?_|refine ZB Y ?_|refine ZC ?_|(refine cm0 Y Y Y ?_ ?_<;>intro _<;>try omega)|(refine cm0 Y Y Y ?_ ?_<;>intro _<;>try omega)|refine ZG Y ?_|refine Zn Y Y Y ?_|refine ZV Y Y Y (Zp _) ?_|refine Z0 Y (Z6 _) (QJ _) ?_|refine ZV Y Y Y (Xh _) ?_|refine ZA Y Y (by first|rfl|(simp only[lE,lN,lC,Zg,ZX,ZY];first|done|rfl)) (hB _) ?_|refine ZA Y Y (by first|rfl|(simp only[lE,lN,lC,Zg,ZX,ZY];first|done|rfl)) (hC _) ?_|refine ZI ?_|refine ZJ ?_)
    all_goals try omega
    refine key _ _ _ _ _ ?_
    generalize hk:(Qz l a).1=k at *
    generalize hb2:(Qz l a).2=b at *
    have hlm:(l.map Tr.av).length=l.length:=by simp
    have hh1:∀u∈l.take k,u.h<=65536:=fun u hu=>by have:=(hl u (List.mem_of_mem_take hu)).2.1;omega
    have hh2:∀u∈l.drop k,u.h<=65536:=fun u hu=>by have:=(hl u (List.mem_of_mem_drop hu)).2.1;omega
    have hh3:∀u∈l.drop (k+1),u.h<=65536:=fun u hu=>by have:=(hl u (List.mem_of_mem_drop hu)).2.1;omega
    have hG1:∀st,S Tb QP [.lit ((l.map Tr.av).take ((k:Nat):Int).toNat)] st=some ((grp (l.take k)).av,st):=fun st=>ZAK (by rw[List.length_take];omega) hh1 (by rw[Int.toNat_natCast,<- List.map_take];exact .lit _)
    have hG2:∀st,S Tb QP [.lit ((l.map Tr.av).drop ((k:Nat):Int).toNat)] st=some ((grp (l.drop k)).av,st):=fun st=>ZAK (by rw[List.length_drop];omega) hh2 (by rw[Int.toNat_natCast,<- List.map_drop];exact .lit _)
    have hG3:∀st,S Tb QP [.lit ((l.map Tr.av).drop (((k:Nat):Int)+1).toNat)] st=some ((grp (l.drop (k+1))).av,st):=fun st=>ZAK (by rw[List.length_drop];omega) hh3 (by rw[show (((k:Nat):Int)+1).toNat=k+1 by omega,<- List.map_drop];exact .lit _)
    by_cases hz:b=0
    ·rw[if_pos hz]
     generalize grp (l.take k)=g1 at *
     generalize grp (l.drop k)=g2 at *
     repeat'(first|refine ZE ?_|refine ZD ?_|refine ZF Y ?_|refine ZB Y ?_|refine ZC ?_|(refine cm0 Y Y Y ?_ ?_<;>intro _<;>try omega)|refine ZS Y ?_|refine Zy Y Y Y (QQ _ _ _) (Qx _ _) Y ?_|refine ZFL Y Y (by omega) (Y2 _) ?_|refine ZLL Y Y (by omega) (Y2 _) ?_|refine XZ Y Y Y (hG1 _) ?_|refine ZA Y Y (by first|rfl|(simp only[lE,lN,lC,Zg,ZX,ZY];first|done|rfl)) (hG2 _) ?_|refine ZP ?_|refine ZL ?_|refine Zb ?_|refine Za Y ?_)
     all_goals try omega
     exact ZGP hA (.inr Y) Y Y Y Y Y Y
    ·rw[if_neg hz]
     obtain⟨u,hu⟩:∃u,l[k]?=some u:=⟨l[k],by simp[s1]⟩
     rw[hu];simp only[Option.getD_some];obtain⟨u1,u2,u3⟩:=hl u (jM hu);have hub:=s4 u hu
     have hsum:Tr.bytesL l=Tr.bytesL (l.take k)+(u.bytes+Tr.bytesL (l.drop (k+1))):=by
      conv=>lhs;rw[<- List.take_append_drop (k+1) l,ZW hu,Tr.bytesL_append,Tr.bytesL_append]
      simp[Tr.bytesL];omega
     have p1:=Tr.bytesL_nonneg (l:=l.take k) (fun w hw=>hpos w (List.mem_of_mem_take hw))
     have p2:=Tr.bytesL_nonneg (l:=l.drop (k+1)) (fun w hw=>hpos w (List.mem_of_mem_drop hw))
     have hc:=ZOw hN n u b (.inr u1) u2 s2 (by omega) (by omega)
     have hcut:∀w,l[((k:Nat):Int).toNat]?=some w->∀L,S Tb ZBA [.ptr lv ix 0 0 0,w.av,.int .i64 b] ⟨A,false,L⟩=some (.tup [(cutF N n u b).1.av,(cutF N n u b).2.av,.int .i64 0],⟨A,false,L⟩):=by
      intro w hw L;have hw2:l[k]?=some w:=hw;rw[hu]at hw2
      have:=Option.some.inj hw2
      subst this
      exact ih (hrp L) (.inr u1) u2 b s2 (by omega) (by omega)
     have a1:=(ZMM (N:=N) (l:=l.take k) (by rw[List.length_take];omega) (show n+1<=16 by omega) (fun u hu=>hl u (List.mem_of_mem_take hu))).1
     have d1:=(ZMM (N:=N) (l:=l.drop (k+1)) (by rw[List.length_drop];omega) (show n+1<=16 by omega) (fun u hu=>hl u (List.mem_of_mem_drop hu))).1
     have hcl:=hc.l;have hcr:=hc.r
     have hK1:=fun L=>ZOx hN (hrp L) a1 hcl
     have hK2:=fun L=>ZOx hN (hrp L) hcr d1
     generalize cutF N n u b=r at *
     obtain⟨r1,r2⟩:=r
     simp only at *
     generalize grp (l.take k)=g1 at *
     generalize grp (l.drop (k+1))=g3 at *
     generalize concM N g1 r1=z1 at *
     generalize concM N r2 g3=z2 at *
     repeat'(first|refine ZE ?_|refine ZD ?_|refine ZF Y ?_|refine Zr Y Y ?_|refine ZB Y ?_|refine ZC ?_|(refine cm0 Y Y Y ?_ ?_<;>intro _<;>try omega)|(refine cm0 Y Y Y ?_ ?_<;>intro _<;>try omega)|refine ZG Y ?_|refine Zj Y Y (by omega) ?_|refine Zn Y Y Y ?_|refine YQ Y Y (by omega) Z6 (fun _ _=>?_)|refine QF Y (Zp _) ?_|refine ZV Y Y Y (Zp _) ?_|refine Zy Y Y Y (QQ _ _ _) (Qx _ _) Y ?_|refine ZFL Y Y (by omega) (Y2 _) ?_|refine ZLL Y Y (by omega) (Y2 _) ?_|refine XZ Y Y Y (hG1 _) ?_|refine XZ Y Y Y (hG3 _) ?_|refine ZA Y Y (by first|rfl|(simp only[lE,lN,lC,Zg,ZX,ZY];first|done|rfl)) (hcut _ (by assumption) _) ?_|refine ZA Y Y (by first|rfl|(simp only[lE,lN,lC,Zg,ZX,ZY];first|done|rfl)) (hK1 _) ?_|refine ZA Y Y (by first|rfl|(simp only[lE,lN,lC,Zg,ZX,ZY];first|done|rfl)) (hK2 _) ?_|refine ZE5 Y Y Y Y Y (Zp _) ?_|refine ZDY Y Y Y Y (ZjA 4 _) (QQ _ _ _) (Qx _ _) ?_|refine ZI ?_|refine ZP ?_|refine ZL ?_|refine Za Y ?_)
     all_goals try omega
     exact ZGP hA (.inr Y) Y Y Y Y Y Y
theorem ZZ7{lv:Nat}{N:ZO}(hr:Rd st lv ix N)(ht:VE N t)(hb:t.bytes<=65536):S Tb YI [.ptr lv ix 0 0 0,t.av] st=some (.int .i64 0,st):=by
 rcases ht with h|h
 ·exact ZSl h
 ·exact ZR6 hr h hb
structure Out(st:St)(lv jb jx:Nat)(ver:Nat)(s:B8):Prop where
 wr:st.wr lv
 box:st.get lv jb=some (.arr 1 0 [.ref lv jx ver 0 s.length])
 blk:st.get lv jx=some (.arr 1 ver (QR s))
 ne:jx≠jb
def Q3(st:St)(lv jb jx ver:Nat)(s:B8):St:=(st.upd lv jx (.arr 1 ver (QR s))).upd lv jb (.arr 1 0 [.ref lv jx ver 0 s.length])
theorem ZjE(s:B8):Q8 1 (QR s)=true:=by
 induction s with
 | nil=>rfl
 | cons b s ih=>rw[QR,jC,Q8,List.all_cons];exact Bool.and_eq_true_iff.2 ⟨rfl,ih⟩
theorem ZjF(b:Nat)(st:St)(s:B8):mapSt (ZZ QD b) st (QR s)=some (QR s,st):=by
 induction s with
 | nil=>rfl
 | cons x s ih =>
  show mapSt (ZZ QD b) st (AV.int .u8 x.toNat::QR s)=_
  rw[mapSt]
  show ((some (AV.int .u8 x.toNat,st)).bind fun r=>(mapSt (ZZ QD b) r.2 (QR s)).bind (XQ r.1))=_
  rw[oS,ih];rfl
theorem ZZ8(s t:B8):QR (s++t)=QR s++QR t:=by simp[QR]
theorem ZJV(s:B8):(QR s).length=s.length:=by simp[QR]
theorem ZJz{v:Nat}:vis (some (Blk.arr w v es))=some (Blk.arr w v es):=rfl
theorem Out.put{lv:Nat}(h:Out st lv jb jx ver s)(ver':Nat)(t:B8):Out (Q3 st lv jb jx ver' t) lv jb jx ver' t:=by
 have g1:∀l' i',(st.upd lv jx (.arr 1 ver' (QR t))).get l' i'=if l'=lv/\i'=jx then some (.arr 1 ver' (QR t)) else st.get l' i':=fun l' i'=>St.get_upd h.blk ZJz
 have b1:(st.upd lv jx (.arr 1 ver' (QR t))).get lv jb=some (.arr 1 0 [.ref lv jx ver 0 s.length]):=by rw[g1,if_neg (fun q=>h.ne q.2.symm)];exact h.box
 have g2:∀l' i',(Q3 st lv jb jx ver' t).get l' i'=if l'=lv/\i'=jb then some (.arr 1 0 [.ref lv jx ver' 0 t.length]) else (st.upd lv jx (.arr 1 ver' (QR t))).get l' i':=fun l' i'=>St.get_upd b1 ZJz
 refine⟨St.wr_upd (St.wr_upd h.wr h.wr) (St.wr_upd h.wr h.wr),by rw[g2,if_pos ⟨rfl,rfl⟩],?_,h.ne⟩
 rw[g2,if_neg (fun q=>h.ne q.2),g1,if_pos ⟨rfl,rfl⟩]
theorem ZGQ{lv:Nat}(h:Out st lv jb jx ver s)(ver':Nat)(t:B8){l' i':Nat}(hn:¬ (l'=lv/\(i'=jx\/i'=jb))):(Q3 st lv jb jx ver' t).get l' i'=st.get l' i':=by
 have b1:(st.upd lv jx (.arr 1 ver' (QR t))).get lv jb=some (.arr 1 0 [.ref lv jx ver 0 s.length]):=by
  rw[St.get_upd h.blk ZJz,if_neg (fun q=>h.ne q.2.symm)];exact h.box
 rw[Q3,St.get_upd b1 ZJz,if_neg (fun q=>hn ⟨q.1,.inr q.2⟩),St.get_upd h.blk ZJz,if_neg (fun q=>hn ⟨q.1,.inl q.2⟩)]
theorem ZD6{lv:Nat}{b:Blk}:(st.upd lv ix b).upd lv ix c=st.upd lv ix c:=by
 unfold St.upd
 by_cases h:lv=st.A.length
 ·simp only[if_pos h,List.set_set]
 ·simp only[if_neg h,List.length_set]
  rcases Nat.lt_or_ge lv st.A.length with q|q
  ·simp only[List.set_set,List.getElem?_set,if_true,if_pos q,Option.getD_some,Zak]
  ·simp only[List.set_eq_of_length_le q]
theorem ZJW{lv:Nat}{b:Blk}(h:ix≠jx):(st.upd lv ix b).upd lv jx c=(st.upd lv jx c).upd lv ix b:=by
 unfold St.upd
 by_cases hl:lv=st.A.length
 ·simp only[if_pos hl]
  rw[List.set_comm _ _ h]
 ·simp only[if_neg hl,List.length_set]
  rcases Nat.lt_or_ge lv st.A.length with q|q
  ·simp only[List.set_set,List.getElem?_set,if_true,if_pos q,Option.getD_some,Zak]
   rw[List.set_comm _ _ h]
  ·simp only[List.set_eq_of_length_le q]
theorem ZjG{lv v1 v2:Nat}{t:B8}(h:jx≠jb):Q3 (Q3 st lv jb jx v1 s) lv jb jx v2 t=Q3 st lv jb jx v2 t:=by
 unfold Q3
 rw[ZJW (st:=st.upd lv jx _) (fun q=>h q.symm),ZD6,ZD6]
theorem Zhb{L:List Blk}(hA:A=st.A++[(st.ro,st.L)]){lv:Nat}(hl:lv<=st.A.length):
 Q3 ⟨A,ro,L⟩ lv jb jx ver s=⟨(Q3 st lv jb jx ver s).A++[((Q3 st lv jb jx ver s).ro,(Q3 st lv jb jx ver s).L)],ro,L⟩:=by
 unfold Q3;rw[Jl hA hl]
 exact Jl Y (by rw[St.upd_A];exact hl)
section
variable {O:Orc}{k:List Fr}{Q:YD}{e:Env}{A:List (Bool × List Blk)}{L:List Blk}{keep:List Nat}{is:List PI}{d:Nat}
theorem ZlQ{s:Opd}{lv:Nat}{t u:B8}(hA:A=st.A++[(st.ro,st.L)])(ho:Out st lv jb jx ver t)(hs:Ze e s=some (.ref lv jx ver 0 t.length))(hx:Ze e x=some (.str u))(hl:t.length+u.length<4294967296)
 (h:∀A',A'=(st.upd lv jx (.arr 1 (ver+1) (QR (t++u)))).A++[((st.upd lv jx (.arr 1 (ver+1) (QR (t++u)))).ro,(st.upd lv jx (.arr 1 (ver+1) (QR (t++u)))).L)]->Is O is keep k Q ((d,.ref lv jx (ver+1) 0 (t.length+u.length))::e) ⟨A',false,L⟩) :
 Is O (⟨some d,none,false,.app 1 1 s x⟩::is) keep k Q e ⟨A,false,L⟩:=by
 have hlv:=St.get_le ho.blk;refine Z4 (v:=.ref lv jx (ver+1) 0 (t.length+u.length)) (st':=St.upd ⟨A,false,L⟩ lv jx (.arr 1 (ver+1) (QR (t++u)))) ?_ ?_
 ·have hg:=ZQ hA (ro:=false) (L:=L) ho.blk
  have hw:=Xn hA hlv ho.wr (ro:=false) (L:=L)
  simp only[Zi,evalPO,ZH hs,ZH hx,elems,oS,JQ,ZJV,ZjE,if_true,ZjF,Zd5,hg,ZLA,true_and,if_pos (show 0+t.length<=t.length/\t.length+u.length<4294967296/\1<=4096 by omega),List.drop_zero]
  rw[List.take_of_length_le (by rw[ZJV];omega),<- ZZ8,St.put_upd hw hg]
  rfl
 ·rw[Jl hA hlv]
  exact h _ Y
end
theorem Rd.out{lv:Nat}{N:ZO}(hr:Rd st pl px N)(ho:Out st lv jb jx ver s)(hne:pl≠lv)(v:Nat)(t:B8):Rd (Q3 st lv jb jx v t) pl px N:=by
 obtain⟨a0,a1,im,a3,a4,a5,h1,h2⟩:=hr
 exact⟨a0,a1,im,a3,a4,a5,by rw[ZGQ ho _ _ (fun q=>hne q.1)];exact h1,by rw[ZGQ ho _ _ (fun q=>hne q.1)];exact h2⟩
structure WalkAt(st:St)(lv ab ob xb wb pl px:Nat)(N:ZO):Prop where
 rd:Rd st pl px N
 lt:pl≠lv
 a:st.get lv ab=some (.arr 1 0 [.ptr pl px 0 0 0])
 w:st.get lv wb=some (.arr 1 0 [.func (.func Y3) [] [.ptr lv ab 0 0 0,.ptr lv ob 0 0 0,.ptr lv wb 0 0 0]])
 na:ab≠xb/\ab≠ob
 nw:wb≠xb/\wb≠ob
theorem WalkAt.put{lv ab xb wb:Nat}{N:ZO}(h:WalkAt st lv ab ob xb wb pl px N)(ho:Out st lv ob xb ver s)(v:Nat)(t:B8):WalkAt (Q3 st lv ob xb v t) lv ab ob xb wb pl px N :=
 ⟨h.rd.out ho h.lt v t,h.lt,by rw[ZGQ ho _ _ (fun q=>by rcases q.2 with w|w;exact h.na.1 w;exact h.na.2 w)];exact h.a,by rw[ZGQ ho _ _ (fun q=>by rcases q.2 with w|w;exact h.nw.1 w;exact h.nw.2 w)];exact h.w,h.na,h.nw⟩
theorem Zhc{o:Option Blk}{b:Blk}(h:vis o=some b):o=some b:=by
 cases o with
 | none=>simp[vis]at h
 | some c=>cases c<;>simp[vis]at h<;>exact congrArg some h
theorem ZZ9{α:Type}{l:List α}{b:α}(h:l[i]?=some b):l.set i b=l:=by
 obtain⟨h1,h2⟩:=List.getElem?_eq_some_iff.1 h;subst h2;exact List.set_getElem_self h1
theorem upd_same{lv:Nat}{b:Blk}(h:st.get lv ix=some b):st.upd lv ix b=st:=by
 unfold St.upd
 by_cases q:lv=st.A.length
 ·rw[if_pos q]
  rw[St.get,if_pos q]at h;have h2:=Zhc h;rw[ZZ9 h2]
 ·rw[if_neg q]
  rw[St.get,if_neg q]at h
  cases hr:st.A[lv]? with
  | none=>rw[hr]at h;simp at h
  | some r =>
   rw[hr]at h;have h2:=Zhc h;have e1:r.2.set ix b=r.2:=ZZ9 h2;simp only[Option.getD_some,Zak,e1]
   rw[show (r.1,r.2)=r from rfl]
   rw[ZZ9 hr]
theorem Out.same{lv:Nat}(h:Out st lv jb jx ver s):Q3 st lv jb jx ver s=st:=by
 rw[Q3,upd_same h.blk,upd_same h.box]
theorem Out.push{L:List Blk}(hA:A=st.A++[(st.ro,st.L)]){lv:Nat}(h:Out st lv jb jx ver s):Out ⟨A,ro,L⟩ lv jb jx ver s :=
 ⟨Xn hA (St.get_le h.blk) h.wr,ZQ hA h.box,ZQ hA h.blk,h.ne⟩
theorem WalkAt.push{L:List Blk}(hA:A=st.A++[(st.ro,st.L)]){lv ab xb wb:Nat}{N:ZO}(h:WalkAt st lv ab ob xb wb pl px N):WalkAt ⟨A,ro,L⟩ lv ab ob xb wb pl px N :=
 ⟨h.rd.push hA,h.lt,ZQ hA h.a,ZQ hA h.w,h.na,h.nw⟩
theorem wk4(t:Tr)(a b c:AV)(ha:weak a=a)(hb:weak b=b)(hc:weak c=c):ZY (Zg ([]++[t.av]++[a,b,c]))=some [t.av,a,b,c]:=by
 simp only[lE,lC,Zg,ZX,ha,hb,hc,ZY]
theorem ZrY{N:ZO}(hN:GoodN N):∀(n:Nat) (t:Tr),Val N t->t.h=n->t.bytes<=65536->∀ {st:St} {lv ab ob xb wb pl px ver:Nat} {s:B8},WalkAt st lv ab ob xb wb pl px N->Out st lv ob xb ver s->s.length+t.bytes<4294967296 ->
 Sp Tb Y3 [t.av,.ptr lv ab 0 0 0,.ptr lv ob 0 0 0,.ptr lv wb 0 0 0] st fun v st'=>v=.int .i64 0/\∃ver',st'=Q3 st lv ob xb ver' (s++t.txt N):=by
 intro n
 induction n with
 | zero =>
  intro t hv hh hb st lv ab ob xb wb pl px ver s hw ho hl;refine Zmu Y ?_;obtain⟨A,hA⟩:∃A,A=st.A++[(st.ro,st.L)]:=⟨_,rfl⟩;rw[<- hA]
  have hL:=fun L=>Zfy (hw.rd.push hA (ro:=false) (L:=L)) hv
  have hln:=hv.line hh;have htx:=ZJU hv hh;rw[htx]
  have hg1:=fun L=>ZQ hA (ro:=false) (L:=L) hw.a
  have hg2:=fun L=>ZQ hA (ro:=false) (L:=L) ho.box
  generalize Qg N t=u at *
  repeat'(first|refine ZE ?_|refine ZD ?_|refine ZF Y ?_|refine ZU Y Y ?_|refine Zr Y Y ?_|refine ZB Y ?_|refine ZC ?_|(refine cm0 Y Y Y ?_ ?_<;>intro _<;>try omega)|refine ZS Y ?_|refine Ql Y Y (Zp _) ?_|refine Z0 Y (Z6 _) (QJ _) ?_|refine ZV Y Y Y (Xh _) ?_|refine Z5 Y (hg1 _) Y Y ?_|refine ZA Y Y (by first|rfl|(simp only[lE,lN,lC,Zg,ZX,ZY];first|done|rfl)) (hL _) ?_|refine Z5 Y (hg2 _) Y Y ?_)
  all_goals try omega
  refine ZlQ hA ho Y Y (by omega) (fun A' hA'=>?_)
  have hgo:(st.upd lv xb (.arr 1 (ver+1) (QR (s++u)))).get lv ob=some (.arr 1 0 [.ref lv xb ver 0 s.length]):=by
   rw[St.get_upd ho.blk ZJz,if_neg (fun q=>ho.ne q.2.symm)];exact ho.box
  refine ZH9 hA' Y Y (St.wr_upd ho.wr ho.wr) hgo Y (Jc _ (Nat.lt_succ_self _)) Y (fun A2 hA2=>?_)
  repeat'(first|refine ZE ?_|refine ZD ?_|refine ZF Y ?_|refine ZB Y ?_|refine ZC ?_|refine ZP ?_|refine ZL ?_|refine Zb ?_)
  refine⟨_,_,Zf hA2 (.inr Y) Y Y Y Y Y,rfl,ver+1,?_⟩;unfold Q3;rw[lL];rfl
 | succ n ih =>
  intro t hv hh hb st lv ab ob xb wb pl px ver s hw ho hl;refine Zmu Y ?_;obtain⟨A,hA⟩:∃A,A=st.A++[(st.ro,st.L)]:=⟨_,rfl⟩;rw[<- hA]
  obtain⟨c1,c2,c3,c4⟩:=Jz hN hv (by omega)
  have hC:=fun L=>ZBD (hw.rd.push hA (ro:=false) (L:=L)) hv (by omega)
  have htx:=ZBE hN hv (by omega)
  have hg1:=fun L=>ZQ hA (ro:=false) (L:=L) hw.a
  rw[htx];rw[<- c4]at hl hb
  generalize childs N t=l at *
  have hpos:∀u∈l,1<=u.bytes:=fun u hu=>(c1 u hu).1.pos.2
  repeat'(first|refine ZE ?_|refine ZD ?_|refine ZF Y ?_|refine ZU Y Y ?_|refine Zr Y Y ?_|refine ZB Y ?_|refine ZC ?_|refine QL Y ?_|(refine cm0 Y Y Y ?_ ?_<;>intro _<;>try omega)|(refine cm0 Y Y Y ?_ ?_<;>intro _<;>try omega)|refine ZG Y ?_|refine Ql Y Y (Zp _) ?_|refine Z0 Y (Z6 _) (QJ _) ?_|refine ZV Y Y Y (Xh _) ?_|refine Z5 Y (hg1 _) Y Y ?_|refine ZA Y Y (by first|rfl|(simp only[lE,lN,lC,Zg,ZX,ZY];first|done|rfl)) (hC _) ?_|refine ZI ?_|refine ZJ ?_)
  all_goals try omega
  have hst:st=Q3 st lv ob xb ver s:=ho.same.symm
  refine Zt (α:=Nat × List Blk × Nat) (fun p=>[(3,.ptr lv wb 0 0 0),(35,.lit (l.map Tr.av)),(36,.int .i64 l.length),(37,.int .i64 p.1)])
   (fun p=>⟨(Q3 st lv ob xb p.2.2 (s++Tr.txtL N (l.take p.1))).A++[((Q3 st lv ob xb p.2.2 (s++Tr.txtL N (l.take p.1))).ro,(Q3 st lv ob xb p.2.2 (s++Tr.txtL N (l.take p.1))).L)],false,p.2.1⟩)
   (fun p=>p.1<=l.length) (fun p=>l.length-p.1) (0,[Blk.arr 7 0 [t.av]],ver) rfl ?_ (by simp) ?_
  ·simp only[List.take_zero,Tr.txtL,lN,<- hst,<- hA]
   rfl
  rintro⟨i,G,ver⟩ hi
  simp only at hi ⊢
  have hw2:=hw.put ho ver (s++Tr.txtL N (l.take i));have ho2:=ho.put ver (s++Tr.txtL N (l.take i))
  have hpp:∀v2 t2,Q3 (Q3 st lv ob xb ver (s++Tr.txtL N (l.take i))) lv ob xb v2 t2=Q3 st lv ob xb v2 t2:=fun v2 t2=>ZjG ho.ne
  generalize hs1:Q3 st lv ob xb ver (s++Tr.txtL N (l.take i))=st1 at *
  obtain⟨A1,hA1⟩:∃A1,A1=st1.A++[(st1.ro,st1.L)]:=⟨_,rfl⟩;rw[<- hA1]
  have hgw:=fun L=>ZQ hA1 (ro:=false) (L:=L) hw2.w
  repeat'(first|refine ZE ?_|refine ZD ?_|refine ZF Y ?_|refine ZB Y ?_|refine ZC ?_|(refine cm0 Y Y Y ?_ ?_<;>intro _<;>try omega)|refine ZS Y ?_|refine ZG Y ?_|refine Z0 Y Y Y ?_|refine YQ Y Y (by omega) Z6 (fun _ _=>?_)|refine QF Y (Zp _) ?_|refine J9 Y Y Y (QQ _ _ _) (Qx _ _) Y ?_|refine ZI ?_|refine ZP ?_|refine Zo ?_|refine ZJ ?_|refine ZL ?_|refine Zc ?_|refine Za Y ?_|refine Zk ?_)
  ·rename_i u hu
   have hu2:l[i]?=some u:=hu;have hum:=jM hu2
   have hsum:Tr.bytesL l=Tr.bytesL (l.take i)+(u.bytes+Tr.bytesL (l.drop (i+1))):=by
    conv=>lhs;rw[<- List.take_append_drop (i+1) l,ZW hu2,Tr.bytesL_append,Tr.bytesL_append]
    simp[Tr.bytesL];omega
   have p1:=ZMN hN (l:=l.take i) (fun w hw=>(c1 w (List.mem_of_mem_take hw)).1)
   have p2:=Tr.bytesL_nonneg (l:=l.drop (i+1)) (fun w hw=>by have:=hpos w (List.mem_of_mem_drop hw);omega)
   have p3:=Tr.bytesL_nonneg (l:=l.take i) (fun w hw=>by have:=hpos w (List.mem_of_mem_take hw);omega)
   have hle:lv<=st1.A.length:=St.get_le ho2.blk
   have htx2:s++Tr.txtL N (l.take (i+1))=s++Tr.txtL N (l.take i)++u.txt N:=by
    rw[ZW hu2,Tr.txtL_append,List.append_assoc];simp[Tr.txtL]
   have ihu:=fun L=>ih u (c1 u hum).1 (by have:=(c1 u hum).2.1;omega) (by omega) (hw2.push hA1 (ro:=false) (L:=L)) (ho2.push hA1 (ro:=false) (L:=L)) (by rw[lL];omega)
   refine Z5 Y (hgw _) Y Y ?_
   repeat'(refine Ql Y Y (Zp _) ?_)
   refine ZV1 Y Y (wk4 _ _ _ _ Y Y Y) (ihu _) ?_
   rintro v st' ⟨rfl,v2,rfl⟩
   rw[Zhb hA1 hle,hpp,<- htx2]
   repeat'(first|refine ZE ?_|refine ZD ?_|refine ZF Y ?_|refine ZB Y ?_|refine ZC ?_|(refine cm0 Y Y Y ?_ ?_<;>intro _<;>try omega)|refine ZG Y ?_|refine Zj Y Y (by omega) ?_|refine ZI ?_|refine Zz ?_|refine Z7 ?_)
   exact⟨(i+1,_,v2),⟨rfl,rfl⟩,by simp only;omega,by simp only;omega⟩
  ·have hi':i=l.length:=by omega
   subst hi'
   rw[List.take_length]at *
   refine⟨_,_,Zf hA1 (.inr Y) Y Y Y Y Y,rfl,ver,?_⟩;exact hs1.symm
structure AR where
 blk:List Int
 n:Nat
 ver:Nat
 states:List Int
 gens:List Int
 most:Int
 nodes:ZO
 slots:Int
 allocs:Int
 frees:Int
 stale:Int
namespace AR
def b0(r:AR):Blk:=.arr 1 0 (r.states.map (.int .u8))
def b1(r:AR):Blk:=.arr 1 r.ver (r.blk.map (.int .i64))
def b2(r:AR):Blk:=.arr 1 0 (r.gens.map (.int .u64))
def b3(r:AR)(lv b:Nat):Blk:=.arr 4 0 [.agg [.ref lv (b+1) r.ver 0 r.n,.ref lv b 0 0 r.states.length,.ref lv (b+2) 0 0 r.gens.length,.int .u64 r.most]]
def b4(r:AR):Blk:=.map (r.nodes.map nodeAV)
def b5(r:AR)(lv b:Nat):Blk:=.arr 6 0 [.agg [.int .i64 r.slots,.ptr lv (b+3) 0 0 0,.map lv (b+4),.int .i64 r.allocs,.int .i64 r.frees,.int .i64 r.stale]]
end AR
structure Has(st:St)(lv b:Nat)(r:AR):Prop where
 wr:st.wr lv
 h0:st.get lv b=some r.b0
 h1:st.get lv (b+1)=some r.b1
 h2:st.get lv (b+2)=some r.b2
 h3:st.get lv (b+3)=some (r.b3 lv b)
 h4:st.get lv (b+4)=some r.b4
 h5:st.get lv (b+5)=some (r.b5 lv b)
theorem ZB1{T:Tab}{body:PC}{res:List RV}{args:LV}{st2:St}(hT:T f=some (.pf ⟨false,body,res⟩))
 (h:∀A,A=st.A++[(st.ro,st.L)]->Ru (S T) body [] (fun x e st'=>Qj false res (x,e,st')=some (v,st2)) (QO 0 args) ⟨A,false,[]⟩):S T f args st=some (v,st2):=by
 obtain⟨⟨x,e',st',h1,h2⟩⟩:=h _ rfl;refine ZmB hT ?_;simp only[J3,jB,if_false,St.push,h1,oS];exact h2
def AR.take(r:AR)(s:Nat):AR:={ r with n:=r.n-1,states:=r.states.set s 1 }
def Qs(st:St)(lv b:Nat)(r:AR)(s:Nat):St:=(st.upd lv (b+3) ((r.take s).b3 lv b)).upd lv b (r.take s).b0
theorem ZE6{lv b:Nat}{r:AR}(h:Has st lv b r)(s:Nat)(l' i':Nat):(Qs st lv b r s).get l' i'=if l'=lv/\i'=b then some (r.take s).b0 else if l'=lv/\i'=b+3 then some ((r.take s).b3 lv b) else st.get l' i':=by
 have g1:∀l' i',(st.upd lv (b+3) ((r.take s).b3 lv b)).get l' i'=if l'=lv/\i'=b+3 then some ((r.take s).b3 lv b) else st.get l' i':=fun l' i'=>St.get_upd h.h3 rfl
 have b1:(st.upd lv (b+3) ((r.take s).b3 lv b)).get lv b=some r.b0:=by rw[g1,if_neg (by omega)];exact h.h0
 rw[Qs,St.get_upd b1 rfl,g1]
theorem Has.take{lv b:Nat}{r:AR}(h:Has st lv b r)(s:Nat):Has (Qs st lv b r s) lv b (r.take s):=by
 refine⟨St.wr_upd (St.wr_upd h.wr h.wr) (St.wr_upd h.wr h.wr),?_,?_,?_,?_,?_,?_⟩
 ·rw[ZE6 h,if_pos ⟨rfl,rfl⟩]
 ·rw[ZE6 h,if_neg (by omega),if_neg (by omega)];exact h.h1
 ·rw[ZE6 h,if_neg (by omega),if_neg (by omega)];exact h.h2
 ·rw[ZE6 h,if_neg (by omega),if_pos ⟨rfl,rfl⟩]
 ·rw[ZE6 h,if_neg (by omega),if_neg (by omega)];exact h.h4
 ·rw[ZE6 h,if_neg (by omega),if_neg (by omega)];exact h.h5
theorem ZnH{lv b:Nat}{r:AR}(h:Has st lv b r){s:Nat}(hn:r.n=k+1)(hk:r.blk[k]?=some (s:Int))(hs:s<r.states.length)(hs2:s<16384)(hg:r.gens[s]?=some (g:Int))(hg1:1<=g/\g<=4294967295)(hbig:r.n<65536):
 S Tb Xg [.ptr lv (b+3) 0 0 0] st=some (.tup [.int .u64 ((g*65536+s:Nat):Int),.int .i64 0],Qs st lv b r s):=by
 refine ZB1 Y (fun A hA=>?_)
 have g1:=fun L=>ZQ hA (ro:=false) (L:=L) h.h1
 have g3:=fun L=>ZQ hA (ro:=false) (L:=L) h.h3
 unfold AR.b1 at g1;unfold AR.b3 at g3;rw[hn]at g3
 have hM:=fun st=>Zj8 s g hs2 hg1 st
 repeat'(first|refine ZE ?_|refine ZD ?_|refine ZF Y ?_|refine ZU Y Y ?_|refine ZB Y ?_|refine ZC ?_|refine Z2 Y Y ?_|refine Qf Y ?_|(refine cm0 Y Y Y ?_ ?_<;>intro _<;>try omega)|refine ZG Y ?_|refine YE Y Y (by omega) ?_|refine JA Y Y Y Y ?_|refine Z5 Y (g3 _) Y Y ?_|refine ZI ?_)
 all_goals try omega
 have hw1:∀L,wIs 1 r.ver (St.get ⟨A,false,L⟩ lv (b+1))=true:=fun L=>by rw[g1];simp[wIs]
 refine YP Y Y (by omega) (hw1 _) ?_
 refine Z5 (x:=.int .i64 s) Y (g1 _) (by rw[show 0+(((k+1:Nat):Int)-1).toNat=k by omega,jG,hk];rfl) rfl ?_
 repeat'(first|refine ZE ?_|refine ZD ?_|refine ZF Y ?_|refine ZU Y Y ?_|refine ZB Y ?_|refine ZC ?_|refine Z2 Y Y ?_|refine Qf Y ?_|refine YE Y Y (by omega) ?_|refine Z5 Y (g3 _) Y Y ?_)
 refine ZLM Y Y (by omega) (hw1 _) ?_
 repeat'(first|refine ZU Y Y ?_|refine Z2 Y Y ?_)
 have hle:=St.get_le h.h3;have h3':=h.h3;unfold AR.b3 at h3';rw[hn]at h3'
 refine ZH9 hA Y Y h.wr h3' Y (Jc _ (Nat.lt_succ_self _)) Y (fun A1 hA1=>?_)
 have e1:(((k+1:Nat):Int)-1).toNat=k:=by omega
 have eB:Blk.arr 4 0 ([AV.agg [.ref lv (b+1) r.ver 0 (k+1),.ref lv b 0 0 r.states.length,.ref lv (b+2) 0 0 r.gens.length,.int .u64 r.most]].set 0 (.agg [.ref lv (b+1) r.ver 0 (((k+1:Nat):Int)-1).toNat,.ref lv b 0 0 r.states.length,.ref lv (b+2) 0 0 r.gens.length,.int .u64 r.most]))=(r.take s).b3 lv b:=by
  simp[AR.b3,AR.take,hn]
 rw[eB]at hA1
 have q1:∀l' i',(st.upd lv (b+3) ((r.take s).b3 lv b)).get l' i'=if l'=lv/\i'=b+3 then some ((r.take s).b3 lv b) else st.get l' i':=fun l' i'=>St.get_upd h.h3 rfl
 have hw:=St.wr_upd (b:=(r.take s).b3 lv b) (ix:=b+3) h.wr h.wr
 have k0:(st.upd lv (b+3) ((r.take s).b3 lv b)).get lv b=some r.b0:=by rw[q1,if_neg (by omega)];exact h.h0
 have k2:(st.upd lv (b+3) ((r.take s).b3 lv b)).get lv (b+2)=some r.b2:=by rw[q1,if_neg (by omega)];exact h.h2
 have k3:(st.upd lv (b+3) ((r.take s).b3 lv b)).get lv (b+3)=some ((r.take s).b3 lv b):=by rw[q1,if_pos ⟨rfl,rfl⟩]
 have et:Qs st lv b r s=(st.upd lv (b+3) ((r.take s).b3 lv b)).upd lv b (r.take s).b0:=rfl;rw[et]
 generalize st.upd lv (b+3) ((r.take s).b3 lv b)=st1 at *
 unfold AR.b0 at k0;unfold AR.b3 AR.take at k3;simp only[List.length_set]at k3
 have m0:=fun L=>ZQ hA1 (ro:=false) (L:=L) k0
 have m3:=fun L=>ZQ hA1 (ro:=false) (L:=L) k3
 have hw0:∀L,wIs 1 0 (St.get ⟨A1,false,L⟩ lv b)=true:=fun L=>by rw[m0];simp[wIs]
 repeat'(first|refine ZE ?_|refine ZD ?_|refine ZF Y ?_|refine ZU Y Y ?_|refine ZB Y ?_|refine ZC ?_|refine Z2 Y Y ?_|refine Z5 Y (m3 _) Y Y ?_|refine YP Y Y (by omega) (hw0 _) ?_)
 refine ZH9 hA1 (y:=.int .u8 (r.states[s]'hs)) Y Y hw k0 ?_ Y Y (fun A2 hA2=>?_)
 ·rw[show 0+((s:Nat):Int).toNat=s by omega,jG,jE hs];rfl
 have eS:Blk.arr 1 0 ((r.states.map (AV.int .u8)).set (0+((s:Nat):Int).toNat) (.int .u8 1))=(r.take s).b0:=by
  rw[show 0+((s:Nat):Int).toNat=s by omega]
  unfold AR.b0 AR.take;simp only[List.map_set]
 rw[eS]at hA2
 have q2:∀l' i',(st1.upd lv b (r.take s).b0).get l' i'=if l'=lv/\i'=b then some (r.take s).b0 else st1.get l' i':=fun l' i'=>St.get_upd k0 rfl
 have n2:(st1.upd lv b (r.take s).b0).get lv (b+2)=some r.b2:=by rw[q2,if_neg (by omega)];exact k2
 have n3:(st1.upd lv b (r.take s).b0).get lv (b+3)=some (.arr 4 0 [.agg [.ref lv (b+1) r.ver 0 (r.n-1),.ref lv b 0 0 r.states.length,.ref lv (b+2) 0 0 r.gens.length,.int .u64 r.most]]):=by rw[q2,if_neg (by omega)];exact k3
 generalize st1.upd lv b (r.take s).b0=st2 at *
 unfold AR.b2 at n2
 have o2:=fun L=>ZQ hA2 (ro:=false) (L:=L) n2
 have o3:=fun L=>ZQ hA2 (ro:=false) (L:=L) n3
 have hw2:∀L,wIs 1 0 (St.get ⟨A2,false,L⟩ lv (b+2))=true:=fun L=>by rw[o2];simp[wIs]
 have hsg:s<r.gens.length:=(List.getElem?_eq_some_iff.1 hg).1
 repeat'(first|refine ZE ?_|refine ZD ?_|refine ZF Y ?_|refine ZU Y Y ?_|refine ZB Y ?_|refine ZC ?_|refine Z2 Y Y ?_|refine Z5 Y (o3 _) Y Y ?_|refine YP Y Y (by omega) (hw2 _) ?_)
 refine Z5 (x:=.int .u64 g) Y (o2 _) (by rw[show 0+((s:Nat):Int).toNat=s by omega,jG,hg];rfl) rfl ?_
 repeat'(first|refine ZF Y ?_|refine Zr Y Y ?_|refine ZB Y ?_|refine ZC ?_|refine ZA Y Y Y (hM _) ?_|refine ZP ?_|refine ZL ?_)
 refine Zf hA2 (.inr Y) Y Y Y Y ?_;rfl
def ZB2{α:Type}(l:List α)(g:Int)(i:Nat):List α:=(l.drop (ZDp l.length g i).toNat).take (XN l.length g i).toNat
def ZB3(row:List Tr):List Tr:=(List.range (Zm row.length 4).toNat).map fun i=>grp (ZB2 row (Zm row.length 4) i)
def ZAs:Nat->List Tr->List Tr
 | 0,row=>row
 | n+1,row=>if row.length<=1 then row else ZAs n (ZB3 row)
noncomputable def Qt(s:B8):Tr:=grp (ZAs s.length ((Yx s).map J8))
theorem Zhd(s:B8)(g:Int)(i:Nat):ZR7 s g i=ZB2 s g i:=rfl
theorem ZaA{α:Type}(l:List α){g:Int}(hg:1<=g):∀k:Nat,k<=g.toNat->((List.range k).map (ZB2 l g)).flatten=l.take (ZDp l.length g k).toNat
 | 0,_=>by rw[ZJw l.length g (by omega)];simp
 | k+1,h=>by
  rw[List.range_succ,List.map_append,List.flatten_append,ZaA l hg k (by omega),ZE4]
  have h1:=ZBj (n:=l.length) (g:=g) (by omega) (by omega) (i:=k) (by omega)
  have h2:=ZAr (n:=l.length) (g:=g) (by omega) (by omega) k
  simp only[jC,List.map_nil,List.flatten_cons,List.flatten_nil,lN,ZB2];rw[Int.toNat_add h1.1 h2,List.take_add]
theorem Zdd{α:Type}(l:List α){g:Int}(hg:1<=g):((List.range g.toNat).map (ZB2 l g)).flatten=l:=by
 rw[ZaA l hg g.toNat (Nat.le_refl _),ZhX l.length g (by omega)]
 simp
theorem ZaB{α:Type}(l:List α){g:Int}(hg:1<=g)(hi:i<g.toNat):((ZB2 l g i).length:Int)=XN l.length g i:=by
 have h1:=ZBj (n:=l.length) (g:=g) (by omega) (by omega) (i:=i+1) (by omega)
 have h0:=ZBj (n:=l.length) (g:=g) (by omega) (by omega) (i:=i) (by omega)
 have h2:=ZAr (n:=l.length) (g:=g) (by omega) (by omega) i
 rw[ZE4]at h1;rw[ZB2,List.length_take,List.length_drop];omega
theorem ZSo{n m:Int}(hm:1<=m)(hn:1<=n):XN n (Zm n m) i<=m/\n / Zm n m<=XN n (Zm n m) i:=by
 have hg:=Xi hn hm;have e1:Zm n m*(n / Zm n m)+n % Zm n m=n:=Int.mul_ediv_add_emod n (Zm n m)
 have e2:=Int.emod_nonneg n (show Zm n m≠0 by omega)
 have e3:n<=m*Zm n m:=by
  have a1:m*((n-1) / m)+(n-1) % m=n-1:=Int.mul_ediv_add_emod (n-1) m
  have a2:=Int.emod_lt_of_pos (n-1) (show 0<m by omega)
  unfold Zm;rw[Int.mul_add];omega
 refine⟨?_,by unfold XN;split<;>omega⟩
 have e4:n / Zm n m<=m:=by
  apply Int.ediv_le_of_le_mul (by omega)
  exact e3
 unfold XN
 split
 ·rename_i h
  rcases Int.lt_or_le (n / Zm n m) m with q|q
  ·omega
  ·have:n / Zm n m=m:=by omega
   rw[this]at e1
   have:Zm n m*m=m*Zm n m:=Int.mul_comm _ _
   omega
 ·omega
structure Row(N:ZO)(row:List Tr)(h:Nat)(s:B8):Prop where
 val:∀t∈row,Val N t/\t.h=h
 big:2<=row.length->∀t∈row,Big t
 txt:Tr.txtL N row=s
theorem ZlR(N:ZO)(ls:List (List Tr))(h:∀l∈ls,2<=l.length):Tr.txtL N (ls.map grp)=Tr.txtL N ls.flatten:=by
 induction ls with
 | nil=>rfl
 | cons a r ih =>
  rw[jC,Tr.txtL,List.flatten_cons,Tr.txtL_append,ZGO N (h a (by simp)),ih (fun l hl=>h l (by simp[hl]))]
theorem Zhe{N:ZO}{row:List Tr}{h:Nat}(hr:Row N row h s)(h2:2<=row.length)(hh:h+1<=16):Row N (ZB3 row) (h+1) s/\(ZB3 row).length<row.length/\1<=(ZB3 row).length:=by
 have hg:=Xi (n:=row.length) (most:=4) (by omega) (by omega)
 have hg4:Zm row.length 4=((row.length:Int)-1) / 4+1:=rfl
 have hlen:(ZB3 row).length=(Zm row.length 4).toNat:=by unfold ZB3;simp
 have hsz:∀i,i<(Zm row.length 4).toNat->2<=(ZB2 row (Zm row.length 4) i).length/\(ZB2 row (Zm row.length 4) i).length<=4:=by
  intro i hi;have h1:=ZaB row hg.1 hi
  have h3:=ZSo (n:=row.length) (m:=4) (by omega) (by omega) (i:=i)
  have h4:2<=(row.length:Int) / Zm row.length 4:=by
   apply (Int.le_ediv_iff_mul_le (by omega)).2
   omega
  omega
 refine⟨⟨?_,?_,?_⟩,by omega,by omega⟩
 ·intro t ht
  unfold ZB3 at ht;obtain⟨i,hi,rfl⟩:=List.mem_map.1 ht;rw[List.mem_range]at hi;obtain⟨a,b⟩:=hsz i hi
  obtain⟨g1,g2,g3⟩:=ZCV (N:=N) (h:=h) a b hh (fun u hu=>by
   have hm:u∈row:=List.mem_of_mem_drop (List.mem_of_mem_take hu)
   exact⟨(hr.val u hm).1,(hr.val u hm).2,hr.big h2 u hm⟩)
  exact⟨g1,g2⟩
 ·intro _ t ht
  unfold ZB3 at ht;obtain⟨i,hi,rfl⟩:=List.mem_map.1 ht;rw[List.mem_range]at hi;obtain⟨a,b⟩:=hsz i hi;rw[ZGN a];intro q;simp[Tr.h]at q
 ·have e:ZB3 row=((List.range (Zm row.length 4).toNat).map (ZB2 row (Zm row.length 4))).map grp:=by unfold ZB3;rw[List.map_map];rfl
  rw[e,ZlR N _ (fun l hl=>by
   obtain⟨i,hi,rfl⟩:=List.mem_map.1 hl;rw[List.mem_range]at hi
   exact (hsz i hi).1),Zdd row hg.1,hr.txt]
theorem ZR8{N:ZO}(hN:GoodN N):∀(n:Nat) (row:List Tr) (h:Nat) (s:B8),Row N row h s->row.length<=n+1->s.length<=65536->∃h',Row N (ZAs n row) h' s/\(ZAs n row).length<=1/\(1<=row.length->1<=(ZAs n row).length)
 | 0,row,h,s,hr,hl,hs=>⟨h,hr,by rw[ZAs];omega,fun q=>q⟩
 | n+1,row,h,s,hr,hl,hs=>by
  rw[ZAs]
  split
  ·exact⟨h,hr,by assumption,fun q=>q⟩
  ·rename_i h2
   have hh:h+1<=16:=by
    match row,h2,hr with
    | t::r,h2,hr =>
     have h1:=(hr.val t (by simp))
     have h3:=ZJy hN h1.1
     have h4:(t.txt N).length<=s.length:=by rw[<- hr.txt,Tr.txtL,lL];omega
     have:=h1.1.height hN (by omega)
     omega
    | [],h2,_=>simp at h2
   obtain⟨a,b,c⟩:=Zhe hr (by omega) hh
   obtain⟨h',d,e,f⟩:=ZR8 hN n (ZB3 row) (h+1) s a (by omega) hs
   exact⟨h',d,e,fun _=>f c⟩
theorem ZMO{N:ZO}(s:B8):Row N ((Yx s).map J8) 0 s/\((Yx s).map J8).length<=s.length/\(s≠[]->1<=((Yx s).map J8).length):=by
 unfold Yx
 split
 ·rename_i h
  have:s=[]:=List.length_eq_zero_iff.1 h
  subst this
  exact⟨⟨fun t ht=>by simp at ht,fun h=>by simp at h,rfl⟩,by simp,fun q=>absurd rfl q⟩
 ·rename_i h
  have hg:=Xi (n:=s.length) (most:=16) (by omega) (by omega)
  have hsz:∀i,i<(Zm s.length 16).toNat->1<=(ZB2 s (Zm s.length 16) i).length/\(ZB2 s (Zm s.length 16) i).length<=16/\(2<=Zm s.length 16->8<=(ZB2 s (Zm s.length 16) i).length):=by
   intro i hi;have h1:=ZaB s hg.1 hi
   have h3:=ZSo (n:=s.length) (m:=16) (by omega) (by omega) (i:=i)
   have h4:1<=(s.length:Int) / Zm s.length 16:=by
    apply (Int.le_ediv_iff_mul_le (by omega)).2
    omega
   refine⟨by omega,by omega,fun h2=>?_⟩
   have hg4:Zm s.length 16=((s.length:Int)-1) / 16+1:=rfl
   have h5:8<=(s.length:Int) / Zm s.length 16:=by
    apply (Int.le_ediv_iff_mul_le (by omega)).2
    omega
   omega
  have hlen:(((List.range (Zm s.length 16).toNat).map (ZR7 s (Zm s.length 16))).map J8).length=(Zm s.length 16).toNat:=by simp
  refine⟨⟨?_,?_,?_⟩,by omega,fun _=>by omega⟩
  ·intro t ht
   obtain⟨c,hc,rfl⟩:=List.mem_map.1 ht;obtain⟨i,hi,rfl⟩:=List.mem_map.1 hc;rw[List.mem_range]at hi
   have:=hsz i hi
   exact⟨ZOu ⟨this.1,this.2.1⟩,rfl⟩
  ·intro h2 t ht
   obtain⟨c,hc,rfl⟩:=List.mem_map.1 ht;obtain⟨i,hi,rfl⟩:=List.mem_map.1 hc;rw[List.mem_range]at hi
   have:=(hsz i hi).2.2 (by omega)
   intro _;rw[ZBF,Zhd];omega
  ·have hf : ∀l : List B8, Tr.txtL N (l.map J8) = l.flatten := by
    intro l
    induction l with
    | nil=>rfl
    | cons a l ih=>rw[jC,Tr.txtL,ih,ZOv,List.flatten_cons]
   rw[hf];exact Zdd s hg.1
theorem Xw{N:ZO}(hN:GoodN N)(hs:s.length<=65536):VE N (Qt s)/\(Qt s).txt N=s/\(Qt s).bytes=s.length:=by
 obtain⟨a,b,c⟩:=ZMO (N:=N) s
 obtain⟨h',d,e,f⟩:=ZR8 hN s.length _ 0 s a (by omega) hs
 unfold Qt
 generalize ZAs s.length ((Yx s).map J8)=row at *
 match row,e,d with
 | [],_,d =>
  have:s=[]:=d.txt.symm
  subst this;exact⟨.inl zero_empty,rfl,rfl⟩
 | [t],_,d =>
  have h1:=(d.val t (by simp)).1
  have h2:=d.txt;simp only[Tr.txtL,lN]at h2;refine⟨.inr h1,h2,?_⟩
  have:=ZJy hN h1
  rw[h2]at this;exact this.symm
theorem ZR9{α:Type}(G:List α)(a:α)(r:List α):(G++a::r)[G.length]?=some a:=by
 rw[List.getElem?_append_right (Nat.le_refl _)];simp
theorem ZqD{α:Type}(G:List α)(a b:α)(r:List α):(G++a::b::r)[G.length+1]?=some b:=by
 rw[List.getElem?_append_right (by omega)];simp
theorem ZqE{α:Type}(G:List α)(a b c:α)(r:List α):(G++a::b::r).set (G.length+1) c=G++a::c::r:=by
 rw[List.set_append_right _ _ (by omega)];simp
theorem ZnI{k:List Fr}{L:List Blk}{keep:List Nat}{s:Opd}{l:List Tr}(hs:Ze e s=some (.ref A.length ix ver 0 n))(hx:Ze e x=some (.lit ([t].map Tr.av)))(hg:L[ix]?=some (Blk.arr 7 ver (l.map Tr.av)))(hb:n=l.length)
 (hl:l.length+1<4294967296) (h:Is O is keep k Q ((d,.ref A.length ix (ver+1) 0 (n+1))::e) ⟨A,false,L.set ix (Blk.arr 7 (ver+1) ((l++[t]).map Tr.av))⟩):Is O (⟨some d,none,false,.app 7 80 s x⟩::is) keep k Q e ⟨A,false,L⟩:=by
 subst hb
 refine ZJv hs hg Y hx (.lit _) (by simp;omega) ?_
 simpa using h
theorem ZE7{k:List Fr}{L:List Blk}{keep:List Nat}(h:Is O is keep k Q ((d,.ref A.length L.length 0 0 0)::e) ⟨A,false,L++[Blk.arr w 0 []]⟩):Is O (⟨some d,none,false,.onil w⟩::is) keep k Q e ⟨A,false,L⟩ :=
 Z4 (v:=.ref A.length L.length 0 0 0) (st':=⟨A,false,L++[Blk.arr w 0 []]⟩) (by simp only[Zi,evalPO,oS,St.new_cur,Jp]) h
theorem ZlS{N:ZO}(hN:GoodN N){k:List Fr}(hs:s.length<=65536)(B:Blk)(row:List Tr)(n:Nat)(r:List Tr)(hrow:Row N row 0 s)(hn:row.length<=n+1)(h64:row.length<=65536)(hr:ZAs n row=r)
 (hex:∀(G:List Blk) (ver:Nat),Rk (S Tb) k Q (.ex 2) [(2,.ptr A.length 0 0 0 0),(4,.ref A.length (B::G).length ver 0 r.length),(31,.bool false)] ⟨A,false,B::G++[.arr 7 ver (r.map Tr.av)]⟩) (ver:Nat) (ex:Env) :
 Ru (S Tb) (.loop ZGh) k Q ((2,.ptr A.length 0 0 0 0)::(4,.ref A.length 1 ver 0 row.length)::ex) ⟨A,false,[B,.arr 7 ver (row.map Tr.av)]⟩:=by
 refine Zt (α:=List Tr × List Blk × Nat × Env) (fun p=>(2,.ptr A.length 0 0 0 0)::(4,.ref A.length (B::p.2.1).length p.2.2.1 0 p.1.length)::p.2.2.2) (fun p=>⟨A,false,B::p.2.1++[.arr 7 p.2.2.1 (p.1.map Tr.av)]⟩)
  (fun p=>p.1.length<=65536/\∃k h,p.1.length<=k+1/\Row N p.1 h s/\ZAs k p.1=r) (fun p=>p.1.length) (row,[],ver,ex) rfl rfl ⟨h64,n,0,hn,hrow,hr⟩ ?_
 rintro⟨row,G,ver,ex⟩ ⟨h64,kk,h,hk,hR,hb⟩
 simp only at h64 hk hR hb ⊢
 repeat'(first|refine ZE ?_|refine ZD ?_|refine ZF Y ?_|refine ZB Y ?_|refine ZC ?_|refine Qf Y ?_|(refine cm0 Y Y Y ?_ ?_<;>intro _<;>try omega)|refine ZS Y ?_|refine ZG Y ?_|refine ZI ?_|refine Zo ?_|refine ZJ ?_|refine Zc ?_|refine Zk ?_)
 ·rename_i hgt
  have hgt2:2<=row.length:=by omega
  obtain⟨kk,rfl⟩:∃j,kk=j+1:=⟨kk-1,by omega⟩
  rw[ZAs,if_neg (by omega)]at hb
  have hh:h+1<=16:=by
   match row,hgt2,hR with
   | t::r,_,hR =>
    have h1:=(hR.val t (by simp))
    have h3:=ZJy hN h1.1
    have h4:(t.txt N).length<=s.length:=by rw[<- hR.txt,Tr.txtL,lL];omega
    have:=h1.1.height hN (by omega)
    omega
  obtain⟨u1,u2,u3⟩:=Zhe hR hgt2 hh
  refine ZA Y Y Y (Zp9 row.length 4 _ (by omega)) ?_
  have hg:=Xi (n:=row.length) (most:=4) (by omega) (by omega)
  have hget:=fun i hi=>ZZ2 (n:=row.length) (m:=4) (by omega) (i:=i) hi
  have hlen:=ZZ3 (n:=row.length) (m:=4) (by omega)
  have hpb:=fun (i:Nat) hi=>ZBj (n:=row.length) (g:=Zm row.length 4) (by omega) (by omega) (i:=i) hi
  have hps:=ZE4 row.length (Zm row.length 4)
  have hp0:=ZJw row.length (Zm row.length 4) (by omega)
  have hsn:=ZAr (n:=row.length) (g:=Zm row.length 4) (by omega) (by omega)
  have hrl:(ZB3 row).length=(Zm row.length 4).toNat:=by unfold ZB3;simp
  have hrg:∀i,i<(Zm row.length 4).toNat->(ZB3 row)[i]?=some (grp (ZB2 row (Zm row.length 4) i)):=by
   intro i hi;unfold ZB3;rw[jG,List.getElem?_range hi];rfl
  have hpl:=fun i hi=>ZaB row (g:=Zm row.length 4) hg.1 (i:=i) hi
  have hpe:∀i,ZB2 row (Zm row.length 4) i=(row.drop (ZDp row.length (Zm row.length 4) i).toNat).take (XN row.length (Zm row.length 4) i).toNat:=fun _=>rfl
  generalize ZBC (row.length:Int) 4=z at *
  generalize Zm (row.length:Int) 4=g at *
  generalize ZB3 row=up at *
  have hh2:∀u∈row,u.h<=65536:=fun u hu=>by have:=(hR.val u hu).1.h16;omega
  repeat'(first|refine ZE ?_|refine ZD ?_|refine ZF Y ?_|refine Zr Y Y ?_|refine ZB Y ?_|refine ZC ?_|refine QL Y ?_|(refine cm0 Y Y Y ?_ ?_<;>intro _<;>try omega)|refine ZG Y ?_|refine ZE7 ?_|refine ZI ?_|refine ZJ ?_)
  all_goals try omega
  refine Zt (α:=Nat) (fun i=>[(2,.ptr A.length 0 0 0 0),(4,.ref A.length (B::G).length ver (ZDp row.length g i).toNat (row.length-(ZDp row.length g i).toNat)),(9,.ref A.length ((B::G).length+1) i 0 i),(42,ZSm z),(43,.int .i64 z.length),(44,.int .i64 i)])
   (fun i=>⟨A,false,B::G++[.arr 7 ver (row.map Tr.av),.arr 7 i ((up.take i).map Tr.av)]⟩) (fun i=>i<=z.length) (fun i=>z.length-i) 0 ?_ ?_ (Nat.zero_le _) ?_
  ·simp[hp0]
  ·simp
  intro i hi
  repeat'(first|refine ZE ?_|refine ZD ?_|refine ZF Y ?_|refine ZB Y ?_|refine ZC ?_|refine QF Y Y ?_|refine YQ Y Y (by omega) (fun _=>rfl) (fun _ _=>?_)|(refine cm0 Y Y Y ?_ ?_<;>intro _<;>try omega)|refine ZS Y ?_|refine ZG Y ?_|refine ZI ?_|refine Zo ?_|refine ZJ ?_|refine Zc ?_|refine Zz ?_|refine Za Y ?_|refine Z7 ?_|refine Zk ?_)
  ·rename_i hlt x hx
   have hi2:i<g.toNat:=by omega
   have hx2:z[i]?=some x:=hx;rw[hget i hi2]at hx2;have hx3:=Option.some.inj hx2;subst hx3
   have hb0:=hpb i (by omega)
   have hb1:=hpb (i+1) (by omega)
   rw[hps i]at hb1;have hs0:=hsn i;have hpl2:=hpl i hi2;have hrg2:=hrg i hi2;have hpe2:=hpe i;have hps2:=hps i
   generalize ZDp (row.length:Int) g i=p at *
   generalize XN (row.length:Int) g i=q at *
   generalize ZB2 row g i=part at *
   have hgetL:∀b:Blk,(B::G++[.arr 7 ver (row.map Tr.av),b])[(B::G).length]?=some (.arr 7 ver (row.map Tr.av)):=fun b=>ZR9 _ _ _
   have hwi:wIs 7 ver (St.get ⟨A,false,B::G++[.arr 7 ver (row.map Tr.av),.arr 7 i ((up.take i).map Tr.av)]⟩ A.length (B::G).length)=true:=by
    rw[St.get_cur,hgetL];simp[vis,wIs]
   refine ZLM Y Y (by omega) hwi ?_
   have hSl:Sl ⟨A,false,B::G++[.arr 7 ver (row.map Tr.av),.arr 7 i ((up.take i).map Tr.av)]⟩ (.ref A.length (B::G).length ver p.toNat q.toNat) part:=by
    refine .ref (es:=row.map Tr.av) (by rw[St.get_cur,hgetL];rfl) (by omega) (by rw[List.length_map];omega) ?_
    rw[hpe2,<- List.map_drop,<- List.map_take]
   refine ZA Y Y Y (ZAK (by omega) (fun u hu=>hh2 u (by rw[hpe2]at hu;exact List.mem_of_mem_drop (List.mem_of_mem_take hu))) hSl) ?_
   have hti:(up.take i).length=i:=by rw[List.length_take];omega
   refine ZCg Y ?_
   refine ZnI Y Y (ZqD _ _ _ _) hti.symm (by omega) ?_
   rw[ZqE];have htk:=ZW hrg2;rw[<- htk]
   repeat'(first|refine ZD ?_|refine ZF Y ?_|refine ZB Y ?_|refine ZC ?_)
   have hwi2:wIs 7 ver (St.get ⟨A,false,B::G++[.arr 7 ver (row.map Tr.av),.arr 7 (i+1) ((up.take (i+1)).map Tr.av)]⟩ A.length (B::G).length)=true:=by
    rw[St.get_cur,hgetL];simp[vis,wIs]
   refine ZLN Y Y (by omega) hwi2 ?_
   repeat'(first|refine ZD ?_|refine ZF Y ?_|refine ZB Y ?_|refine ZC ?_|refine Zj Y Y (by omega) ?_|refine Zz ?_|refine Z7 ?_)
   refine⟨i+1,⟨?_,rfl⟩,by omega,by omega⟩
   rw[show p.toNat+q.toNat=(p+q).toNat by omega,show row.length-p.toNat-q.toNat=row.length-(p+q).toNat by omega]
   simp only[hps2];rfl
  ·have hi2:i=up.length:=by omega
   subst hi2;rw[List.take_length]
   refine⟨(up,G++[.arr 7 ver (row.map Tr.av)],up.length,[]),⟨?_,?_⟩,⟨by simp only;omega,kk,h+1,by simp only;omega,u1,hb⟩,by simp only;omega⟩
   ·simp
   ·simp
 ·have hrr : ZAs kk row = row := by
   cases kk with
   | zero=>rfl
   | succ j=>rw[ZAs,if_pos (by omega)]
  rw[hrr]at hb;subst hb;exact hex G ver
theorem Zhf(s:B8):(Yx s).length<=s.length:=by
 have:=(ZMO (N:=[]) s).2.1
 simpa using this
theorem Zf0{N:ZO}(hN:GoodN N)(s:B8)(hs:s.length<=65536)(st:St):S Tb ZAi [.str s] st=some (.tup [(Qt s).av,.int .i64 0],st):=by
 refine QK Y (fun A hA=>?_)
 have hcl:=Zhf s
 have hch:=fun st=>ZnC s st (by omega)
 obtain⟨ra,rb,rc⟩:=ZMO (N:=N) s
 obtain⟨h',rd,re,rf⟩:=ZR8 hN s.length _ 0 s ra (by omega) hs
 unfold Qt
 generalize hres:ZAs s.length ((Yx s).map J8)=r at *
 have hG:=fun {v:AV} {st:St} (hv:Sl st v r)=>ZAK (by omega) (fun u hu=>by have:=(rd.val u hu).1.h16;omega) hv
 have hlen:((Yx s).map J8).length=(Yx s).length:=by simp
 generalize hc:Yx s=c at *
 unfold ZhW at hch
 repeat'(first|refine ZE ?_|refine ZD ?_|refine ZF Y ?_|refine ZB Y ?_|refine ZC ?_|refine YY Y ?_|refine QL Y ?_|(refine cm0 Y Y Y ?_ ?_<;>intro _<;>try omega)|refine ZG Y ?_|refine Zn Y Y Y ?_|refine ZBM Y ?_|refine ZA Y Y (by first|rfl|(simp only[lE,lN,lC,Zg,ZX,ZY];first|done|rfl)) (hch _) ?_|refine ZI ?_|refine ZJ ?_)
 all_goals try omega
 refine Zt (α:=Nat) (fun i=>[(2,.ptr A.length 0 0 0 0),(4,.ref A.length 1 i 0 i),(17,.lit (c.map .str)),(18,.int .i64 c.length),(19,.int .i64 i)])
  (fun i=>⟨A,false,[.arr 7 0 [trZ],.arr 7 i ((c.take i).map fun s=>(J8 s).av)]⟩) (fun i=>i<=c.length) (fun i=>c.length-i) 0 rfl rfl (by simp) ?_
 rintro i hi
 repeat'(first|refine ZE ?_|refine ZD ?_|refine ZF Y ?_|refine ZB Y ?_|refine ZC ?_|refine QF Y Y ?_|refine YQ Y Y (by omega) (fun _=>rfl) (fun _ _=>?_)|(refine cm0 Y Y Y ?_ ?_<;>intro _<;>try omega)|refine ZS Y ?_|refine ZG Y ?_|refine Zj Y Y (by omega) ?_|refine Zw Y Y Y ?_|refine QX Y Y Y Y ?_|refine ZeW Y Y Y (by first|rfl|(simp;done)|(simp;omega)) (by first|omega|(simp<;>omega)) (by decide) rfl rfl rfl ?_|refine ZI ?_|refine Zo ?_|refine ZJ ?_|refine Zc ?_|refine Zz ?_|refine Za Y ?_|refine Z7 ?_|refine Zk ?_)
 ·rename_i x hx
  have hx2:c[i]?=some x:=hx
  refine⟨i+1,⟨rfl,?_⟩,by omega,by omega⟩
  simp only[ZW hx2,List.map_append,jC,List.map_nil];rfl
 ·have hi':i=c.length:=by omega
  subst hi';rw[List.take_length]
  have:=ZlS hN hs (A:=A) (.arr 7 0 [trZ]) (c.map J8) s.length r ra (by omega) (by omega) hres (k:=[.blk 2,.seq (.seq ZGi .ret)]) (Q:=fun x e st'=>Qj false [.c 2 true 7,.s 3] (x,e,st')=some (.tup [(grp r).av,.int .i64 0],st)) (fun G ver=>?_) c.length [(17,.lit (c.map .str)),(18,.int .i64 c.length),(19,.int .i64 c.length),(20,.bool false)]
  ·rw[List.map_map,List.length_map]at this
   exact this
  ·repeat'(first|refine ZE ?_|refine ZD ?_|refine ZF Y ?_|refine ZB Y ?_|refine ZC ?_|refine JB Y Y Y Y (QQ _ _ _) (Qx _ _) ?_|refine ZA Y Y (by first|rfl|(simp only[lE,lN,lC,Zg,ZX,ZY];first|done|rfl)) (hG (Sl.cur (ZR9 _ _ _) rfl)) ?_|refine ZP ?_|refine ZL ?_|refine Za Y ?_)
   exact ZD5 hA (.inr Y) Y Y Y Y
theorem Zhg:∀ {N:ZO} {h:Nat} {x:Nd},lk N h=none->ZBV (.int .u64 h) x.av (N.map nodeAV)=some ((N++[(h,x)]).map nodeAV)
 | [],h,x,_=>rfl
 | p::N,h,x,hn=>by
  rw[lk]at hn
  by_cases q:p.1=h
  ·rw[if_pos q]at hn;simp at hn
  ·rw[if_neg q]at hn
   rw[jC,ZBV]
   show (Option.bind (if IntKind.u64=IntKind.u64 then some ((h:Int) == (p.1:Int)) else none) fun b=>if b=true then some ((AV.int .u64 h,x.av)::N.map nodeAV) else (ZBV (.int .u64 h) x.av (N.map nodeAV)).map (nodeAV p::·))=_
   rw[if_pos rfl,oS,if_neg (by simp;omega),Zhg hn]
   rfl
section
variable {O:Orc}{k:List Fr}{Q:YD}{e:Env}{A:List (Bool × List Blk)}{L:List Blk}{keep:List Nat}{is:List PI}{d:Nat}
theorem Zhh{i v:Opd}{lv h:Nat}{w:AV}{es es':List (AV × AV)}(hA:A=st.A++[(st.ro,st.L)])(hx:Ze e x=some (.map lv ix))(hi:Ze e i=some (.int .u64 h))(hv:Ze e v=some w)(hw:st.wr lv)(hg:st.get lv ix=some (.map es))
 (hs:ZZ QD (lv+1) ⟨A,false,L⟩ w=some (w,⟨A,false,L⟩)) (hp:ZBV (.int .u64 h) w es=some es')
 (hh:∀A',A'=(st.upd lv ix (.map es')).A++[((st.upd lv ix (.map es')).ro,(st.upd lv ix (.map es')).L)]->Is O is keep k Q e ⟨A',false,L⟩):Is O (⟨none,none,false,.mupd 0 x i v⟩::is) keep k Q e ⟨A,false,L⟩:=by
 have hl:=St.get_le hg;refine Z4 (od:=none) (v:=.undef) (st':=St.upd ⟨A,false,L⟩ lv ix (.map es')) ?_ ?_
 ·simp only[Zi,evalPO,ZH hx,ZH hi,ZH hv,ZHy,J2,if_true,hs,oS,ZKj,ZQ hA hg,ZAe,hp,St.put_upd (Xn hA hl hw) (ZQ hA hg),ZBW]
 ·rw[Jl hA hl]
  exact hh _ Y
end
def AR.alloc(r:AR)(s g:Nat)(x:Nd):AR:={ r.take s with nodes:=r.nodes++[(g*65536+s,x.copy)],allocs:=r.allocs+1 }
def ZAt(st:St)(lv b:Nat)(r:AR)(s g:Nat)(x:Nd):St:=((Qs st lv b r s).upd lv (b+4) (r.alloc s g x).b4).upd lv (b+5) ((r.alloc s g x).b5 lv b)
theorem Zde{L:List Blk}(hA:A=st.A++[(st.ro,st.L)]){lv b s:Nat}{r:AR}(hl:lv<=st.A.length):
 Qs ⟨A,ro,L⟩ lv b r s=⟨(Qs st lv b r s).A++[((Qs st lv b r s).ro,(Qs st lv b r s).L)],ro,L⟩:=by
 unfold Qs;rw[Jl hA hl]
 exact Jl Y (by rw[St.upd_A];exact hl)
theorem ZnJ(st:St)(lv b s:Nat)(r:AR):(Qs st lv b r s).A.length=st.A.length:=by
 unfold Qs;rw[St.upd_A,St.upd_A]
structure CanTake(r:AR)(k s g:Nat):Prop where
 n:r.n=k+1
 blk:r.blk[k]?=some (s:Int)
 st:s<r.states.length
 s16:s<16384
 gen:r.gens[s]?=some (g:Int)
 g1:1<=g
 g2:g<=4294967295
 big:r.n<65536
 new:lk r.nodes (g*65536+s)=none
 al:0<=r.allocs/\r.allocs<1000000
theorem Zdf{lv b:Nat}{r:AR}(h:Has st lv b r){s:Nat}(hc:CanTake r k s g)(x:Nd)(v:AV)(hone:v.one=true)
 (A:List (Bool × List Blk)) (G:List Blk) (hA:A=(Qs st lv b r s).A++[((Qs st lv b r s).ro,(Qs st lv b r s).L)]) (hC:∀L,S Tb Z9 [weak v] ⟨A,false,L⟩=some (.lit (x.ks.map Kid.av),⟨A,false,L⟩)) :
 Ru (S Tb) (.seq ZAn (.seq ZAo (.seq ZAp (.seq ZAq .ret)))) [] (fun x' e st' =>
  Qj false [RV.s 4,RV.s 5] (x',e,st')=some (.tup [.int .u64 ((g*65536+s:Nat):Int),.int .i64 0],ZAt st lv b r s g x))
  [(0,.ptr lv (b+5) 0 0 0),(3,.ptr A.length 0 0 0 0),(13,.int .u64 ((g*65536+s:Nat):Int)),(14,.int .i64 0),(72,.bool false)] ⟨A,false,.arr 3 0 [.agg [.int .i64 x.h,.str x.text,v]]::G⟩:=by
 have ht:=h.take s
 have g5:=fun L=>ZQ hA (ro:=false) (L:=L) ht.h5
 unfold AR.b5 at g5;have hal:=hc.al;have hpv:JL (.agg [.int .i64 x.h,.str x.text,v]) false 2 1=some v:=rfl
 repeat'(first|refine ZE ?_|refine ZD ?_|refine ZU Y Y ?_|refine ZV Y Y Y Y ?_)
 refine ZA Y Y Y (hC _) ?_;have hstv:(JP 3 (.agg [.int .i64 x.h,.str x.text,v]) 2 1 (.lit (x.ks.map Kid.av))).bind Y7=some x.copy.av:=rfl
 repeat'(first|refine ZE ?_|refine ZD ?_|refine ZF Y ?_|refine ZU Y Y ?_|refine ZV Y Y Y Y ?_|refine ZB Y ?_|refine ZC ?_|refine Z2 Y Y ?_|refine JB Y Y Y Y Y Y ?_|refine Z5 Y (g5 _) Y Y ?_)
 have hp:=Zhg (N:=r.nodes) (x:=x.copy) hc.new
 refine Zhh (w:=x.copy.av) hA Y Y Y ht.wr ht.h4 Y hp (fun A1 hA1=>?_)
 have eM:Blk.map ((r.nodes++[(g*65536+s,x.copy)]).map nodeAV)=(r.alloc s g x).b4:=rfl;rw[eM]at hA1
 have q1:∀l' i',((Qs st lv b r s).upd lv (b+4) (r.alloc s g x).b4).get l' i'=if l'=lv/\i'=b+4 then some (r.alloc s g x).b4 else (Qs st lv b r s).get l' i':=fun l' i'=>St.get_upd ht.h4 rfl
 have k5:((Qs st lv b r s).upd lv (b+4) (r.alloc s g x).b4).get lv (b+5)=some ((r.take s).b5 lv b):=by rw[q1,if_neg (by omega)];exact ht.h5
 have hw1:=St.wr_upd (b:=(r.alloc s g x).b4) (ix:=b+4) ht.wr ht.wr;have eA:ZAt st lv b r s g x=((Qs st lv b r s).upd lv (b+4) (r.alloc s g x).b4).upd lv (b+5) ((r.alloc s g x).b5 lv b):=rfl;rw[eA]
 generalize (Qs st lv b r s).upd lv (b+4) (r.alloc s g x).b4=st1 at *
 unfold AR.b5 at k5
 have m5:=fun L=>ZQ hA1 (ro:=false) (L:=L) k5
 have hat:(r.take s).allocs=r.allocs:=rfl;rw[hat]at k5 m5
 repeat'(first|refine ZE ?_|refine ZD ?_|refine ZF Y ?_|refine ZU Y Y ?_|refine ZB Y ?_|refine ZC ?_|refine Z2 Y Y ?_|refine Zj Y Y (by omega) ?_|refine Z5 Y (m5 _) Y Y ?_)
 refine ZH9 hA1 Y Y hw1 k5 Y Y Y (fun A2 hA2=>?_)
 have eB:Blk.arr 6 0 ([AV.agg [.int .i64 (r.take s).slots,.ptr lv (b+3) 0 0 0,.map lv (b+4),.int .i64 r.allocs,.int .i64 (r.take s).frees,.int .i64 (r.take s).stale]].set 0 (.agg [.int .i64 (r.take s).slots,.ptr lv (b+3) 0 0 0,.map lv (b+4),.int .i64 (r.allocs+1),.int .i64 (r.take s).frees,.int .i64 (r.take s).stale]))=(r.alloc s g x).b5 lv b:=rfl;rw[eB]at hA2
 repeat'(first|refine ZE ?_|refine ZD ?_|refine ZF Y ?_|refine ZB Y ?_|refine ZC ?_|refine ZP ?_|refine ZL ?_)
 refine Zf hA2 (.inr Y) Y Y Y Y ?_;rfl
theorem ZjH{lv b:Nat}{r:AR}(h:Has st lv b r){s:Nat}(hc:CanTake r k s g)(text:B8)(ht:ZB0 text):
 S Tb Jm [.ptr lv (b+5) 0 0 0,.agg [.int .i64 (0:Nat),.str text,.nils]] st=some (.tup [.int .u64 ((g*65536+s:Nat):Int),.int .i64 0],ZAt st lv b r s g ⟨0,text,none⟩):=by
 refine ZB1 Y (fun A hA=>?_)
 have hN:=fun st=>ZZz ⟨0,text,none⟩ (.inl ⟨rfl,ht.1,ht.2,rfl⟩) st
 simp only[Nd.av,slV]at hN
 have g5:=fun L=>ZQ hA (ro:=false) (L:=L) h.h5
 unfold AR.b5 at g5
 repeat'(first|refine ZE ?_|refine ZD ?_|refine ZF Y ?_|refine ZU Y Y ?_|refine ZV Y Y Y Y ?_|refine ZB Y ?_|refine ZC ?_|refine Z2 Y Y ?_|refine YF Y ?_|(refine cm0 Y Y Y ?_ ?_<;>intro _<;>try omega)|refine ZG Y ?_|refine JA Y Y Y Y ?_|refine Zn Y Y Y ?_|refine ZA Y Y Y (hN _) ?_|refine Yd ?_|refine Z5 Y (g5 _) Y Y ?_|refine ZI ?_|refine Zo ?_|refine ZJ ?_|refine Zc ?_|refine Za Y ?_)
 all_goals try omega
 have hle:=St.get_le h.h3
 have hTk:=fun L=>ZnH (st:=⟨A,false,L⟩) ⟨Xn hA hle h.wr,ZQ hA h.h0,ZQ hA h.h1,ZQ hA h.h2,ZQ hA h.h3,ZQ hA h.h4,ZQ hA h.h5⟩ hc.n hc.blk hc.st hc.s16 hc.gen ⟨hc.g1,hc.g2⟩ hc.big
 refine ZA Y Y Y (hTk _) ?_;rw[Zde hA hle];obtain⟨A1,hA1⟩:∃A1,A1=(Qs st lv b r s).A++[((Qs st lv b r s).ro,(Qs st lv b r s).L)]:=⟨_,rfl⟩;rw[<- hA1]
 have hlen:A.length=A1.length:=by rw[hA,hA1,lL,lL,ZnJ];rfl
 rw[hlen];refine ZF Y ?_;refine Zr Y Y ?_;refine Zr Y Y ?_;refine ZF Y ?_;refine ZF Y ?_;refine ZB Y ?_;refine ZC ?_;refine ZE ?_;refine ZE ?_;refine ZD ?_;refine ZF Y ?_
 refine Zh Y Y (fun q=>absurd Y q) (fun _=>?_)
 refine ZB Y ?_;refine ZC ?_;refine ZG Y ?_;refine ZI ?_;refine ZC ?_
 have:=Zdf h hc ⟨0,text,none⟩ .nils rfl A1 [] hA1 (fun L=>Zp5 _)
 exact this
section
variable {O:Orc}{k:List Fr}{Q:YD}{e:Env}{A:List (Bool × List Blk)}{L:List Blk}{keep:List Nat}{is:List PI}{d:Nat}
theorem ZrZ{x:AV}(ha:Ze e a=some (.ptr A.length L.length ver i o))(hx:es[i]?=some x)(hv:JL x agg o n=some v)
 (h:Is O is keep k Q ((d,v)::e) ⟨A,false,L++[Blk.arr w ver es]++[c]⟩):Is O (⟨some d,none,false,.ld agg n a⟩::is) keep k Q e ⟨A,false,L++[Blk.arr w ver es]++[c]⟩ :=
 ZV (w:=w) ha (by rw[List.append_assoc];exact ZR9 L _ _) hx hv h
theorem Zra{x:AV}{c2:Blk}(ha:Ze e a=some (.ptr A.length L.length ver i o))(hx:es[i]?=some x)(hv:JL x agg o n=some v)
 (h:Is O is keep k Q ((d,v)::e) ⟨A,false,L++[Blk.arr w ver es]++[c]++[c2]⟩):Is O (⟨some d,none,false,.ld agg n a⟩::is) keep k Q e ⟨A,false,L++[Blk.arr w ver es]++[c]++[c2]⟩ :=
 ZV (w:=w) ha (by rw[List.append_assoc,List.append_assoc];exact ZR9 L _ _) hx hv h
end
def ZnK(N:ZO)(n:Nat)(ks:List Kid):Prop:=∀k∈ks,∃y,lk N k.at_=some y/\NdOk y/\y.h=n/\y.mea=k.m
theorem Zdg{j i:Nat}:∀ {L0 T:List Blk},findH j T=some i->findH j (L0++T)=some (L0.length+i)
 | [],T,h=>by simpa using h
 | b::L0,T,h=>by
  have:=Zdg (L0:=L0) h
  unfold findH;rw[lC];simp only[this,List.length_cons]
  congr 1;omega
theorem ZGR:∀ {L0 T:List Blk} {i:Nat} {b:Blk},(L0++T).set (L0.length+i) b=L0++T.set i b
 | [],T,i,b=>by simp
 | c::L0,T,i,b=>by
  rw[lC,List.length_cons,show L0.length+1+i=(L0.length+i)+1 by omega,List.set_cons_succ,ZGR];rfl
theorem QS:∀ {L0 T:List Blk} {i:Nat},(L0++T)[L0.length+i]?=T[i]?
 | [],T,i=>by simp
 | c::L0,T,i=>by
  rw[lC,List.length_cons,show L0.length+1+i=(L0.length+i)+1 by omega,List.getElem?_cons_succ,QS]
section
variable {O:Orc}{k:List Fr}{Q:YD}{e:Env}{A:List (Bool × List Blk)}{L L0 T T':List Blk}{keep:List Nat}{is:List PI}{d:Nat}
theorem ZqF{js:List Nat}(h:Is O is keep k Q e ⟨A,false,L++js.map Blk.hole⟩):Ru O (.regH js keep is) k Q e ⟨A,false,L⟩:=by
 obtain⟨e',st',h1,h2⟩:=h.h;refine⟨⟨.norm,ZAF keep e',st',?_,h2⟩⟩;simp only[exec,ZiQ,jB,if_false,oS,h1,ZSv]
theorem ZqG{j bytes:Nat}{l c:Opd}{n:Int}(hl:Ze e l=some (.int .i64 n))(hc:Ze e c=some (.int .i64 n))(hn:0<=n/\n<4294967296)(hb:bytes<=4096)(hf:findH j T=some i)
 (hL:YO (T.set i (Blk.arr w 0 (List.replicate n.toNat z)))=some T') (h:Is O is keep k Q ((d,.ref A.length (L0.length+i) 0 0 n.toNat)::e) ⟨A,false,L0++T'⟩):Is O (⟨some d,none,false,.w (.here j) (.mkslice w bytes z l c)⟩::is) keep k Q e ⟨A,false,L0++T⟩:=by
 rw[<- Qy hL,<- ZGR]at h;refine Z4 (v:=.ref A.length (L0.length+i) 0 0 n.toNat) (st':=⟨A,false,(L0++T).set (L0.length+i) (Blk.arr w 0 (List.replicate n.toNat z))⟩) ?_ h
 simp only[Zi,QC,newOf,ZH hl,ZH hc,mkslB,if_pos (show 0<=n/\n<=n/\n<4294967296/\bytes<=4096 by omega),oS,Zc2,ZiN,and_self,if_true,Zdg hf,Zc1]
theorem Yy{m:Nat}(hx:Ze e x=some v)(hw:v.wide=some w)(hv:Y7 v=some v')(hm:Zal T=some m)(hL:YO (T++[Blk.arr w 0 [v']])=some T')(h:Is O is keep k Q ((d,.ptr A.length (L0.length+m) 0 0 0)::e) ⟨A,false,L0++T'⟩):Is O (⟨some d,none,false,.box x⟩::is) keep k Q e ⟨A,false,L0++T⟩:=by
 rw[<- Qy hL,<- ZA9 hm,<- List.append_assoc,<- lL]at h;exact Z0 hx hw hv h
theorem ZlT{m:Nat}(hm:Zal T=some m)(hL:YO (T++[Blk.map []])=some T')(h:Is O is keep k Q ((d,.map A.length (L0.length+m))::e) ⟨A,false,L0++T'⟩):Is O (⟨some d,none,false,.mkmap⟩::is) keep k Q e ⟨A,false,L0++T⟩:=by
 rw[<- Qy hL,<- ZA9 hm,<- List.append_assoc,<- lL]at h
 exact Z4 (v:=.map A.length (L0++T).length) (st':=⟨A,false,L0++T++[Blk.map []]⟩) (by simp only[Zi,evalPO,oS,St.new_cur,ZJf]) h
theorem ZAU{x:AV}(ha:Ze e a=some (.ptr A.length (L0.length+ix) ver i o))(hg:T[ix]?=some (Blk.arr w ver es))(hx:es[i]?=some x)(hv:JL x agg o n=some v)
 (h:Is O is keep k Q ((d,v)::e) ⟨A,false,L0++T⟩):Is O (⟨some d,none,false,.ld agg n a⟩::is) keep k Q e ⟨A,false,L0++T⟩ :=
 ZV ha (by rw[QS];exact hg) hx hv h
theorem ZkE{i:Opd}{s m:Nat}{n:Int}(hx:Ze e x=some (.ref A.length (L0.length+ix) ver s m))(hi:Ze e i=some (.int .i64 n))(hn:0<=n/\n<m)(hg:T[ix]?=some (Blk.arr w ver es))(h:Is O is keep k Q ((d,.ptr A.length (L0.length+ix) ver (s+n.toNat) 0)::e) ⟨A,false,L0++T⟩):Is O (⟨some d,none,false,.ixS w x i⟩::is) keep k Q e ⟨A,false,L0++T⟩ :=
 ZMr hx hi hn (by rw[QS];exact hg) h
theorem ZMP{y:AV}(ha:Ze e a=some (.ptr A.length (L0.length+ix) ver i o))(hx:Ze e x=some v)(hg:T[ix]?=some (Blk.arr w ver es))(hy:es[i]?=some y)
 (hs:ZZ QD (A.length+1) ⟨A,false,L0++T⟩ v=some (v,⟨A,false,L0++T⟩)) (hv:(JP w y o n v).bind Y7=some v') (hL:YO (T.set ix (Blk.arr w ver (es.set i v')))=some T') (h:Is O is keep k Q e ⟨A,false,L0++T'⟩):Is O (⟨none,none,false,.st n a x⟩::is) keep k Q e ⟨A,false,L0++T⟩:=by
 rw[<- Qy hL,<- ZGR]at h
 exact JB (by rw[QS];exact hg) ha hx hy hs hv h
end
def Q7(n g:Nat):AR:=⟨(List.range n).map fun (j:Nat)=>(n:Int)-1-j,n,0,List.replicate n 0,List.replicate n 1,g,[],n,0,0,0⟩
theorem ZK6{k:IntKind}{f:Nat->Int}{z:Int}(hi:i<n):((List.range n).map fun j=>AV.int k (if j<i then f j else z)).set i (.int k (f i))=(List.range n).map fun j=>AV.int k (if j<i+1 then f j else z):=by
 apply List.ext_getElem
 ·simp
 ·intro j hj hj'
  simp only[List.getElem_set,List.getElem_map,List.getElem_range]
  by_cases q:i=j
  ·subst q;simp
  ·rw[if_neg q]
   have:j<i+1↔j<i:=by omega
   simp only[this]
theorem ZqH(n g:Nat)(hn:1<=n/\n<=16384)(hg:1<=g/\g<=4294967295)(A:List (Bool × List Blk))(L0:List Blk):
 S Tb ZC0 [.int .i64 n,.int .u64 g] ⟨A,false,L0⟩=some (.tup [.ptr A.length (L0.length+3) 0 0 0,.int .i64 0],⟨A,false,L0++[(Q7 n g).b0,(Q7 n g).b1,(Q7 n g).b2,(Q7 n g).b3 A.length L0.length]⟩):=by
 refine ZAQ Y ?_
 have hmap:∀(k:IntKind) (z:Int),List.replicate n (AV.int k z)=(List.range n).map fun (j:Nat)=>AV.int k (if j<0 then (fun (j:Nat)=>(n:Int)-1-j) j else z):=by
  intro k z;simp only[Nat.not_lt_zero,if_false,List.map_const',List.length_range]
 have hmap1:List.replicate n (AV.int .u64 0)=(List.range n).map fun j=>AV.int .u64 (if j<0 then (fun _=>(1:Int)) j else 0):=by
  simp only[Nat.not_lt_zero,if_false,List.map_const',List.length_range]
 repeat'(first|refine ZE ?_|refine ZD ?_|refine ZF Y ?_|refine QB Y ?_|refine Zl Y Y Y Y ?_|refine ZB Y ?_|refine ZC ?_|(refine cm0 Y Y Y ?_ ?_<;>intro _<;>try omega)|refine ZG Y ?_|refine Zw Y Y Y ?_|refine Z0 Y Y Y ?_|refine ZqF ?_|refine ZqG Y Y (by omega) (by decide) Y Y ?_|refine ZI ?_|refine ZJ ?_)
 simp only[lL,List.length_cons,List.length_nil,List.append_assoc,lC,lE,Int.toNat_natCast,Nat.zero_add];rw[hmap .i64 0,hmap1]
 refine Zt (α:=Nat) (fun i=>[(0,.int .i64 n),(6,.ptr A.length (L0.length+3) 0 0 0),(31,.int .i64 n),(32,.int .i64 i)])
  (fun i=>⟨A,false,L0++[.arr 1 0 (List.replicate n (.int .u8 0)),.arr 1 0 ((List.range n).map fun (j:Nat)=>.int .i64 (if j<i then (fun (j:Nat)=>(n:Int)-1-j) j else 0)),.arr 1 0 ((List.range n).map fun (j:Nat)=>.int .u64 (if j<i then (fun _=>(1:Int)) j else 0)),.arr 4 0 [.agg [.ref A.length (L0.length+1) 0 0 n,.ref A.length (L0.length+0) 0 0 n,.ref A.length (L0.length+2) 0 0 n,.int .u64 g]]]⟩)
  (fun i=>i<=n) (fun i=>n-i) 0 rfl rfl (Nat.zero_le _) ?_
 intro i hi
 repeat'(first|refine ZE ?_|refine ZD ?_|refine ZF Y ?_|refine ZU Y Y ?_|refine ZB Y ?_|refine ZC ?_|refine Z2 Y Y ?_|(refine cm0 Y Y Y ?_ ?_<;>intro _<;>try omega)|refine ZS Y ?_|refine ZG Y ?_|refine YE Y Y (by omega) ?_|refine ZAU Y Y Y Y ?_|refine ZkE Y Y (by omega) Y ?_|refine ZI ?_|refine ZP ?_|refine Zo ?_|refine ZJ ?_|refine ZL ?_|refine Zc ?_|refine Za Y ?_|refine Zk ?_)
 ·simp only[Nat.zero_add,Int.toNat_natCast]
  refine ZMP (y:=.int .i64 0) Y Y Y ?_ Y Y Y ?_
  ·rw[jG,List.getElem?_range (by omega)];simp
  rw[ZK6 (f:=fun (j:Nat)=>(n:Int)-1-j) (by omega)]
  repeat'(first|refine ZD ?_|refine ZF Y ?_|refine ZU Y Y ?_|refine ZB Y ?_|refine ZC ?_|refine Z2 Y Y ?_|refine ZAU Y Y Y Y ?_|refine ZkE Y Y (by omega) Y ?_)
  simp only[Nat.zero_add,Int.toNat_natCast];refine ZMP (y:=.int .u64 0) Y Y Y ?_ Y Y Y ?_
  ·rw[jG,List.getElem?_range (by omega)];simp
  rw[ZK6 (f:=fun (j:Nat)=>(1:Int)) (by omega)]
  repeat'(first|refine ZD ?_|refine ZF Y ?_|refine ZB Y ?_|refine ZC ?_|refine Zj Y Y (by omega) ?_|refine Zz ?_|refine Z7 ?_)
  exact⟨i+1,⟨rfl,rfl⟩,by omega,by omega⟩
 ·obtain rfl:i=n:=by omega
  have e1:∀(k:IntKind) (f:Nat->Int),((List.range i).map fun (j:Nat)=>AV.int k (if j<i then f j else 0))=(List.range i).map fun j=>.int k (f j):=by
   intro k f
   apply List.map_congr_left
   intro j hj;rw[List.mem_range]at hj;rw[if_pos hj]
  simp only[e1,AR.b0,AR.b1,AR.b2,AR.b3,Q7,List.map_replicate,List.map_map,List.length_replicate];simp only[List.map_const',List.length_range];rfl
theorem ZkF(n g:Nat)(hn:1<=n/\n<=16384)(hg:1<=g/\g<=4294967295)(A:List (Bool × List Blk))(L0:List Blk):
 S Tb ZDv [.int .i64 n,.int .u64 g] ⟨A,false,L0⟩=some (.tup [.ptr A.length (L0.length+5) 0 0 0,.int .i64 0],⟨A,false,L0++[(Q7 n g).b0,(Q7 n g).b1,(Q7 n g).b2,(Q7 n g).b3 A.length L0.length,(Q7 n g).b4,(Q7 n g).b5 A.length L0.length]⟩):=by
 refine ZAQ Y ?_
 repeat'(first|refine ZE ?_|refine ZD ?_|refine ZF Y ?_|refine Zr Y Y ?_|refine ZB Y ?_|refine ZC ?_|(refine cm0 Y Y Y ?_ ?_<;>intro _<;>try omega)|refine ZG Y ?_|refine Zw Y Y Y ?_|refine Z0 Y Y Y ?_|refine ZA Y Y Y (ZqH n g hn hg A L0) ?_|refine ZlT Y Y ?_|refine ZI ?_|refine ZP ?_|refine ZL ?_)
 simp only[lL,List.append_assoc,lC,lE];rfl
end Go.Q15
namespace Go.Q15
open Go Go.QAbs
open Go.ChangeMaps (setBlock)
variable {v v' vx z:AV}{c:Blk}{agg ro:Bool}{e:Env}{f:FuncId}{A:List (Bool × List Blk)}{es ys:LV}{is:List PI}{s:B8}{d g i ix jb jx k n o ob pl px ver w:Nat}{a x:Opd}{O:Orc}{st:St}{t:Tr}{Q:YD}
def Zrb:AV->Nat
 | .int _ n=>n.toNat
 | _=>0
def YJ:List (AV × AV)->Option (List H64)
 | []=>some []
 | (.int .u64 h,_)::l=>if hh:0<=h/\h<18446744073709551616 then (YJ l).map fun r=>⟨h.toNat,by omega⟩::r else none
 | _::_=>none
theorem ZGS{q:AV × AV}{l:List (AV × AV)}{ks:List H64}(h:YJ (q::l)=some ks):∃(k:H64) (r:List H64),q.1=hAV k/\YJ l=some r/\ks=k::r:=by
 obtain⟨k,v⟩:=q;unfold YJ at h
 split at h
 ·rename_i e;simp at e
 ·rename_i hh v' l' e
  simp only[List.cons.injEq,jP]at e;obtain⟨⟨rfl,rfl⟩,rfl⟩:=e
  split at h
  ·rename_i hb
   simp only[oM]at h;obtain⟨r,hr,rfl⟩:=h
   exact⟨_,r,by show AV.int .u64 hh=AV.int .u64 ((hh.toNat:Nat):Int);rw[Int.toNat_of_nonneg hb.1],hr,rfl⟩
  ·simp at h
 ·simp at h
theorem Zhi{q:AV × AV}{l:List (AV × AV)}{k:H64}{r:List H64}(h1:q.1=hAV k)(h2:YJ l=some r):YJ (q::l)=some (k::r):=by
 obtain⟨a,v⟩:=q
 simp only at h1
 subst h1;have hlt:=k.isLt
 show (if hh:0<=((k.val:Nat):Int)/\((k.val:Nat):Int)<18446744073709551616 then (YJ l).map fun r=>(⟨((k.val:Nat):Int).toNat,by omega⟩:H64)::r else none)=_
 rw[dif_pos (by omega),h2,Option.map_some]
 rfl
def QA(S:List H64)(es:List (AV × AV)):List (AV × AV):=es.filter fun q=>!(S.any fun h=>decide (h.val=Zrb q.1))
theorem Zf1(k:H64):Zrb (hAV k)=k.val:=by show ((k.val:Nat):Int).toNat=k.val;omega
theorem Zdh(es:List (AV × AV)):QA [] es=es:=by
 unfold QA;rw[List.filter_eq_self];intro a _;rfl
theorem ZJX(h:H64)(S:List H64)(es:List (AV × AV)):QA [h] (QA S es)=QA (h::S) es:=by
 unfold QA;rw[List.filter_filter]
 refine List.filter_congr fun q _=>?_
 simp[Bool.not_or]
theorem ZJY{S S':List H64}(h:∀x,x∈S↔x∈S')(es:List (AV × AV)):QA S es=QA S' es:=by
 unfold QA
 refine List.filter_congr fun q _=>?_
 congr 1
 rw[Bool.eq_iff_iff,List.any_eq_true,List.any_eq_true]
 exact⟨fun ⟨x,h1,h2⟩=>⟨x,(h x).1 h1,h2⟩,fun ⟨x,h1,h2⟩=>⟨x,(h x).2 h1,h2⟩⟩
theorem ZGT(S:List H64):∀ {es:List (AV × AV)} {ks:List H64},YJ es=some ks->YJ (QA S es)=some (ks.filter fun h=>decide (h∉S))
 | [],ks,h=>by simp only[YJ,oJ]at h;subst h;rfl
 | q::es,ks,h=>by
  obtain⟨k,r,h1,h2,rfl⟩:=ZGS h;have ih:=ZGT S h2
  have hk:(!(S.any fun h=>decide (h.val=Zrb q.1)))=decide (k∉S):=by
   rw[h1,Zf1,Bool.eq_iff_iff];simp only[Bool.not_eq_true',List.any_eq_false,decide_eq_true_eq]
   constructor
   ·intro hh hm;exact hh k hm Y
   ·intro hh x hx e;exact hh (by rw[<- Fin.ext e];exact hx)
  unfold QA at ih ⊢;rw[List.filter_cons,List.filter_cons,hk]
  by_cases hm:decide (k∉S)=true
  ·rw[if_pos hm,if_pos hm];exact Zhi h1 ih
  ·rw[if_neg hm,if_neg hm];exact ih
theorem ZqI(k h:H64):ZWE (hAV k) (hAV h)=some (decide (k=h)):=by
 show (if IntKind.u64=IntKind.u64 then some (((k.val:Nat):Int) == ((h.val:Nat):Int)) else none)=_
 rw[if_pos rfl]
 congr 1
 rw[Bool.eq_iff_iff];simp only[beq_iff_eq,decide_eq_true_eq]
 exact⟨fun e=>Fin.ext (by omega),fun e=>by rw[e]⟩
theorem ZlU{k:H64}:∀ {es:List (AV × AV)} {ks:List H64},YJ es=some ks->k∉ks->QA [k] es=es:=by
 intro es ks h hn;unfold QA;rw[List.filter_eq_self];intro q hq
 have:∃h∈ks,q.1=hAV h:=by
  clear hn
  induction es generalizing ks with
  | nil=>simp at hq
  | cons p es ih =>
   obtain⟨k',r,h1,h2,rfl⟩:=ZGS h
   rcases List.mem_cons.1 hq with rfl|hq
   ·exact⟨k',by simp,h1⟩
   ·obtain⟨h',m1,m2⟩:=ih h2 hq
    exact⟨h',by simp[m1],m2⟩
 obtain⟨h',m1,m2⟩:=this;rw[m2,Zf1];simp only[List.any_cons,List.any_nil,Bool.or_false,Bool.not_eq_true',decide_eq_false_iff_not]
 exact fun e=>hn (by rw[Fin.ext e];exact m1)
theorem Zdi(k:H64):∀ {es:List (AV × AV)} {ks:List H64},YJ es=some ks->ks.Nodup->ZPH (hAV k) es=some (QA [k] es)
 | [],ks,h,_=>rfl
 | q::es,ks,h,hn=>by
  obtain⟨k',r,h1,h2,rfl⟩:=ZGS h;rw[List.nodup_cons]at hn;unfold ZPH;rw[h1,ZqI,oS]
  by_cases e:k=k'
  ·subst e
   rw[decide_eq_true rfl,if_pos rfl]
   have:=ZlU h2 hn.1
   unfold QA at this ⊢
   rw[List.filter_cons,if_neg (by rw[h1,Zf1];simp),this]
  ·rw[decide_eq_false e,if_neg (by simp),Zdi k h2 hn.2,Option.map_some]
   unfold QA
   rw[List.filter_cons,if_pos (by rw[h1,Zf1];simp only[List.any_cons,List.any_nil,Bool.or_false,Bool.not_eq_true',decide_eq_false_iff_not];exact fun e2=>e (Fin.ext e2))]
def ZnL(x:MapEntry):Option H64:=match x.key with
 | .int _ h=>some ⟨h.toNat % 18446744073709551616,Nat.mod_lt _ (by decide)⟩
 | _=>none
theorem ZnM{x:MapEntry}{h:H64}(hk:x.key=encH h):ZnL x=some h:=by
 unfold ZnL;rw[hk]
 show some (⟨((h.val:Nat):Int).toNat % 18446744073709551616,_⟩:H64)=_
 congr 1
 apply Fin.ext
 have:=h.isLt
 show ((h.val:Nat):Int).toNat % 18446744073709551616=h.val
 rw[Int.toNat_natCast];omega
theorem Zhj{C:Cx}:∀ {es:List (AV × AV)} {l:List MapEntry} {ks:List H64},EntR C es l->YJ es=some ks->l.filterMap ZnL=ks/\∀x∈l,∃h,x.key=encH h
 | [],l,ks,h,hs=>by
  have:l=[]:=List.eq_nil_of_length_eq_zero h.1.symm
  subst this;simp only[YJ,oJ]at hs
  exact⟨by simpa using hs,by simp⟩
 | q::es,[],ks,h,hs=>by have:=h.1;simp at this
 | (k,v)::es,x::l,ks,h,hs=>by
  obtain⟨k',r,h1,h2,rfl⟩:=ZGS hs
  simp only at h1
  subst h1;obtain⟨i1,i2⟩:=Zhj (C:=C) (es:=es) (l:=l) h.tail h2;obtain⟨_,hk,hv⟩:=h.2 0 _ _ x rfl rfl;have hk:=Jr hk
  refine⟨?_,fun y hy=>?_⟩
  ·rw[List.filterMap_cons,ZnM hk,i1]
  ·rcases List.mem_cons.1 hy with rfl|hy
   ·exact⟨_,hk⟩
   ·exact i2 y hy
section
variable {P:Program}{T:Tab}{O:Orc}{nt:Nat}{W0:World}{B0:Bse}{st st':St}{ρ:Rho}{W W':World}{e:Env}{a:Act}{r:Nat}
theorem ZqJ(hr:Rel W0 B0 st ρ W){kk lv:Nat}{k:AV}(h:ZHz st kk k (.map lv ix)=some st'){kx mx:Value}(hk:QAbs.R (cx st ρ W st.A.length) k kx)(hm:QAbs.R (cx st ρ W st.A.length) (.map lv ix) mx)
 {t key el u ty:TypeId} (ht:P.underlying t=some (.map key el)) (hkk:ZWK P key=some kk) :
 ∃W',(Builtin.delete_ #[t,u] ty #[mx,kx]).run P W=.ok (.tuple #[]) W'/\Goes W0 B0 st ρ W st' ρ W'/\W'.heap.size=W.heap.size/\∀j,j≠(ρ lv ix).b->W'.heap[j]?=W.heap[j]?:=by
 obtain⟨d,hu,hd⟩:=ZVy hkk;unfold ZHz at h
 simp only at h
 split at h
 ·rename_i hki
  simp only[oB]at h;obtain⟨es,hes,es',hdel,hst⟩:=h
  cases hm with
  | map hp =>
   obtain⟨p1,p2,r,rfl,p3⟩:=hp;have hg:=Jj hes
   have:=p3 es hg;subst this
   obtain⟨en,clock,h1,h2,hf⟩:=(hr.map lv ix es hg).ent
   have hk':QAbs.R (cx st ρ W lv) k kx:=by
    unfold J2 at hki
    split at hki
    ·rw[Jr hk];exact .int _ _
    ·rw[X5 hk];exact .str _
    ·rw[YC hk];exact .bool _
    ·simp at hki
   obtain⟨rr,hfind⟩:=ZH4 hdel;obtain⟨f1,f2⟩:=ZH3 hd hki hk' 0 h2 hfind;have hck:=ZDr (P:=P) (W:=W) hu hd en.isEmpty 9999 kx
   have hfr:∀ob:Obj,∀j,j≠(ρ lv ix).b->({ W with heap:=W.heap.setIfInBounds (ρ lv ix).b ob }:World).heap[j]?=W.heap[j]?:=fun ob j hj=>by
    show (W.heap.setIfInBounds (ρ lv ix).b ob)[j]?=W.heap[j]?
    rw[Array.getElem?_setIfInBounds,if_neg (fun q=>hj q.symm)]
   cases rr with
   | none =>
    obtain⟨e4,_,e6⟩:=f2 rfl;rw[e6]at hdel;simp only[oJ]at hdel;subst hdel
    refine⟨{ W with heap:=W.heap.setIfInBounds (ρ lv ix).b (.map en clock) },?_,ZCd hr hg hst hf ?_,by simp,hfr _⟩
    ·simp only[Builtin.delete_,List.getElem?_toArray,List.getElem?_cons_zero,List.getElem?_cons_succ,Sem.run_bind,Zx ht,Result.andThen_ok,XV h1,hck,XU hu e4,ZA6 h1,Sem.run_pure]
    ·intro i k1 v1 hkv
     have hi:=Zq hkv
     have hi':i<en.size:=by have:=h2.1;simp at this;omega
     have hy:en.toList[i]?=some en[i]:=by simp[hi']
     obtain⟨q1,q2,q3⟩:=h2.2 i k1 v1 _ hkv hy;exact⟨q1,en[i],Array.getElem?_eq_getElem hi',q2,q3⟩
   | some w =>
    obtain⟨idx,k0,x,e1,e2,e3,e4,_,e6⟩:=f1 w rfl;rw[e6]at hdel;simp only[oJ]at hdel;subst hdel;have hidx:=Zq e2
    have hidx':idx<en.size:=by simpa using hidx
    have hel:(en.eraseIdxIfInBounds idx).toList=en.toList.eraseIdx idx:=by
     unfold Array.eraseIdxIfInBounds;rw[dif_pos hidx']
     simp
    refine⟨{ W with heap:=W.heap.setIfInBounds (ρ lv ix).b (.map (en.eraseIdxIfInBounds idx) clock) },?_,ZCd hr hg hst ?_ ?_,by simp,hfr _⟩
    ·simp only[Nat.zero_add]at e4
     simp only[Builtin.delete_,List.getElem?_toArray,List.getElem?_cons_zero,List.getElem?_cons_succ,Sem.run_bind,Zx ht,Result.andThen_ok,XV h1,hck,XU hu e4,ZA6 h1,Sem.run_pure]
    ·exact hf.erase hel (by rw[<- Array.length_toList,hel,List.length_eraseIdx,List.length_eraseIdx,h2.1])
    ·intro i k1 v1 hkv
     rw[List.getElem?_eraseIdx]at hkv
     have hgo:∀j:Nat,es[j]?=some (k1,v1)->Zcx k1=true/\∃y:MapEntry,en.toList[j]?=some y/\QAbs.R (cx st ρ W lv) k1 y.key/\QAbs.R (cx st ρ W lv) v1 y.val:=by
      intro j hj;have hlt:=Zq hj
      have hlt':j<en.toList.length:=by rw[<- h2.1];exact hlt
      obtain⟨q1,q2,q3⟩:=h2.2 j k1 v1 _ hj (jE hlt');exact⟨q1,_,jE hlt',q2,q3⟩
     have:(en.eraseIdxIfInBounds idx)[i]?=if i<idx then en.toList[i]? else en.toList[i+1]?:=by
      rw[<- Array.getElem?_toList,hel,List.getElem?_eraseIdx]
     split at hkv
     ·rename_i hlt
      obtain⟨q1,y,q2,q3⟩:=hgo i hkv
      exact⟨q1,y,by rw[this,if_pos hlt];exact q2,q3⟩
     ·rename_i hlt
      obtain⟨q1,y,q2,q3⟩:=hgo (i+1) hkv
      exact⟨q1,y,by rw[this,if_neg hlt];exact q2,q3⟩
 ·simp at h
structure OpN(o:Oper)(op:Op):Prop where
 op:o.op=op
 gd:o.guard=none
 dst:o.dst=none
theorem ZlV{o:Oper}{m k:Operand}{t u:TypeId}{mx kx:Value}{v:Value}(ho:o.op=.call { callee:=.builtin .delete,args:=#[m,k],argTypes:=#[t,u] })(hm:a.eval m=mx)(hk:a.eval k=kx)
 (hr:(Builtin.delete_ #[t,u] o.type #[mx,kx]).run P W=.ok v W'):(execOp a.eval o).run P W=.ok (.value v) W':=by
 unfold execOp;simp only[ho,resolve,invoke,builtin,Sem.run_bind,Sem.run_pure,Result.andThen_ok,List.map_toArray,jC,List.map_nil,hm,hk,hr]
theorem ZSA{o1 o2 o3:Oper}{mt kt t1 t2 i lv ix:Nat}{ty u key el:TypeId}{h:H64}{Q:Exit->Act->World->Prop}(h1:OpIs o1 (.move (.tmp mt)) t1)(h2:OpIs o2 (.move (.tmp kt)) t2)
 (h3:OpN o3 (.call { callee:=.builtin .delete,args:=#[.tmp t1,.tmp t2],argTypes:=#[ty,u] })) (d1:t1≠t2) (d2:t1≠kt) (s1:t1<a.tmps.size) (s2:t2<a.tmps.size) (ht:P.underlying ty=some (.map key el)) (hkk:ZWK P key=some 0)
 (hr:Rel W0 B0 st ρ W) (hm:QAbs.R (cx st ρ W st.A.length) (.map lv ix) (a.eval (.tmp mt))) (hk:a.eval (.tmp kt)=encH h) (hd:ZHz st 0 (hAV h) (.map lv ix)=some st')
 (hQ:∀W',Goes W0 B0 st ρ W st' ρ W'->W'.heap.size=W.heap.size->(∀j,j≠(ρ lv ix).b->W'.heap[j]?=W.heap[j]?)->Q .normal ((a.put (some t1) (a.eval (.tmp mt))).put (some t2) (encH h)) W') :
 (Code.region i #[o1,o2,o3] false).wpIn (fen none) 0 P Q a W:=by
 obtain⟨W',hrun,g,hs,hf⟩:=ZqJ (P:=P) (u:=u) (ty:=o3.type) hr hd (kx:=encH h) (.int _ _) hm ht hkk;refine wpIn_region ?_
 show wpOpsIn (fen none) 0 _ #[o1,o2,o3] _ [0,1,2] a W
 rw[wpOpsIn_cons]
 refine YU h1 Y (by simp) (Jn (x:=.tmp mt) (.inl h1.op)) ?_
 rw[wpOpsIn_cons]
 refine YU h2 Y (by simp) (Jn (x:=.tmp kt) (.inl h2.op)) ?_
 rw[Act.put_other d2,hk,wpOpsIn_cons]
 refine ZJq (o:=o3) Y h3.gd (fun c q=>by rw[h3.op]at q;simp at q) (ZlV h3.op (by rw[Act.put_other (Ne.symm d1)];exact Act.put_look s1) (Act.put_look (by simpa [Act.put] using s2)) hrun) ?_
 rw[h3.dst];exact hQ W' g hs hf
end
section
variable {P:Program}{T:Tab}{O:Orc}{nt:Nat}{W0:World}{B0:Bse}{st st':St}{ρ:Rho}{W W':World}{e:Env}{a:Act}{r:Nat}
theorem Zdj(hr:Rel W0 B0 st ρ W){lv:Nat}{es:List (AV × AV)}{ks:List H64}(hg:st.get lv ix=some (.map es))(hks:YJ es=some ks)(σ:List H64->St)(hσ:σ []=st)
 {o1 o2 o3 o4:Oper} {m t1 it nx ok i1 i3 id:Nat} {ty key el:TypeId} {body:Code} {Q:Exit->Act->World->Prop} (h1:OpIs o1 (.move (.tmp m)) t1) (h2:OpIs o2 (.range ty (.tmp t1)) it) (h3:OpIs o3 (.next (.tmp it) false) nx) (h4:OpIs o4 (.extract (.tmp nx) 0) ok)
 (ht:P.underlying ty=some (.map key el)) (hm:a.eval (.tmp m)=.map (some (ρ lv ix).b)) (s1:t1<a.tmps.size) (s2:it<a.tmps.size) (s3:nx<a.tmps.size) (s4:ok<a.tmps.size) (d1:it≠nx) (d2:it≠ok)
 (K:List Nat) (hK:∀t∈K,t≠t1/\t≠it/\t≠nx/\t≠ok)
 (hbody:∀(S:List H64) (h:H64) (x:MapEntry) (en:Array MapEntry) (clock:Nat) (seen:Array Nat) (a':Act) (W':World),x.key=encH h->Goes W0 B0 st ρ W (σ S) ρ W'->a'.tmps.size=a.tmps.size->a'.defers=a.defers ->
  (∀t∈K,a'.eval (.tmp t)=a.eval (.tmp t))->a'.eval (.tmp it)=.pointer (some ⟨W.heap.size,0,none⟩)->W'.heap[W.heap.size]?=some (.mapIter (some (ρ lv ix).b) clock (seen.push x.born) clock)->W'.heap[(ρ lv ix).b]?=some (.map en clock)->MapFit en clock es.length->x∈en.toList ->
  body.wpIn (fen none) 0 P (fun ex a2 W2=>ex=.normal/\Goes W0 B0 st ρ W (σ (h::S)) ρ W2/\W2.heap[W.heap.size]?=W'.heap[W.heap.size]?/\W2.heap[(ρ lv ix).b]?=W'.heap[(ρ lv ix).b]?/\a2.tmps.size=a.tmps.size/\a2.defers=a.defers /\
   (∀t∈K,a2.eval (.tmp t)=a.eval (.tmp t))/\a2.eval (.tmp it)=.pointer (some ⟨W.heap.size,0,none⟩)) a' W')
 (hQ:∀(S:List H64) (a':Act) (W':World),(∀h,h∈S↔h∈ks)->Goes W0 B0 st ρ W (σ S) ρ W'->a'.tmps.size=a.tmps.size->a'.defers=a.defers->(∀t∈K,a'.eval (.tmp t)=a.eval (.tmp t))->Q .normal a' W') :
 (Code.seq (.region i1 #[o1,o2] false) (.block id (.loop (.seq (.region i3 #[o3,o4] false) (.seq (.cond (.tmp ok) .skip (.exit id)) body))))).wpIn (fen none) 0 P Q a W:=by
 obtain⟨en,clock,q1,q2,hf⟩:=(hr.map lv ix es hg).ent;obtain⟨hsel,hall⟩:=Zhj q2 hks;refine wpIn_seq (wpIn_region ?_)
 show wpOpsIn (fen none) 0 _ #[o1,o2] _ [0,1] a W
 rw[wpOpsIn_cons]
 refine YU h1 Y (by simp) (Jn (x:=.tmp m) (.inl h1.op)) ?_
 rw[wpOpsIn_cons,hm]
 refine YU h2 Y (by simp) (ZSi (m:=.tmp t1) (t:=ty) h2.op ht (Act.put_look s1) q1) ?_
 show Code.wpIn _ _ _ _ _ _ _
 have hjk0:Jk W.heap.size W (W.alloc (.mapIter (some (ρ lv ix).b) clock #[] clock)):=by
  exact⟨rfl,rfl,rfl,by simp,fun i hi _=>Go.RowKit.Below.heap_alloc _ _ _ hi,.inl (Nat.le_refl _)⟩
 have hb:=QH q1
 have hkeep:∀(a':Act) (d:Nat) (v:Value),(d=t1\/d=it\/d=nx\/d=ok)->(∀t∈K,a'.eval (.tmp t)=a.eval (.tmp t))->∀t∈K,(a'.put (some d) v).eval (.tmp t)=a.eval (.tmp t):=by
  intro a' d v hd h t htK;obtain⟨k1,k2,k3,k4⟩:=hK t htK
  rw[Act.put_other (by rcases hd with rfl|rfl|rfl|rfl<;>exact Ne.symm ‹_›)]
  exact h t htK
 refine ZZv (o3:=o3) (o4:=o4) (it:=.tmp it) (nx:=nx) (ok:=ok) hf h3.op h3.gd h3.dst h4.op h4.gd h4.dst
  (fun seen a' W'=>Itr W' (ρ lv ix).b W.heap.size clock en seen/\a'.tmps.size=a.tmps.size/\a'.defers=a.defers/\(∀t∈K,a'.eval (.tmp t)=a.eval (.tmp t))/\a'.eval (.tmp it)=.pointer (some ⟨W.heap.size,0,none⟩)/\∃S,Goes W0 B0 st ρ W (σ S) ρ W'/\∀h,h∈ks↔h∈S\/h∈(ZBh en seen).filterMap ZnL)
  (fun seen a' W' h=>⟨h.2.2.2.2.1,by have:=h.2.1;omega,by have:=h.2.1;omega,h.1⟩) ?_ ?_ ?_
 ·rintro seen a' W' ⟨k1,k2,k3,k4,k5,S,k6,k7⟩ hl0
  rw[hl0]at k7
  refine hQ S _ W' (fun h=>?_) k6 (by simpa [Act.put] using k2) k3 (hkeep _ _ _ (by simp) (hkeep _ _ _ (by simp) k4))
  rw[k7 h];simp
 ·rintro seen a' W' x w1 ⟨k1,k2,k3,k4,k5,S,k6,k7⟩ hx hw hit hnew hjk
  obtain⟨h,hkey⟩:=hall x (ZJr hx);have hperm:=ZMI hf hx;have k8:=k6.trans (k6.rel.jk hjk hr.b0)
  refine wpIn_mono (hbody S h x en clock seen _ _ hkey k8 (by simpa [Act.put] using k2) k3 (hkeep _ _ _ (by simp) (hkeep _ _ _ (by simp) k4)) (by rw[Act.put_other (Ne.symm d2),Act.put_other (Ne.symm d1)];exact k5) hnew hit.map hf (ZJr hx)) ?_
  rintro ex a2 W2 ⟨rfl,g,e1,e2,e3,e4,e5,e6⟩
  refine⟨rfl,⟨by rw[e2];exact hit.map,clock,Nat.le_refl _,by rw[e1];exact hnew⟩,e3,e4,e5,e6,h::S,g,fun y=>?_⟩
  rw[k7 y,(hperm.filterMap ZnL).mem_iff,List.filterMap_cons,ZnM hkey];simp only[List.mem_cons]
  constructor
  ·rintro (q|q|q)
   ·exact .inl (.inr q)
   ·exact .inl (.inl q)
   ·exact .inr q
  ·rintro ((q|q)|q)
   ·exact .inr (.inl q)
   ·exact .inl q
   ·exact .inr (.inr q)
 ·refine⟨⟨hjk0.heap q1 Y,clock,Nat.le_refl _,World.alloc_heap_new _ _⟩,by simp[Act.put],rfl,hkeep _ _ _ (by simp) (hkeep _ _ _ (by simp) (fun _ _=>rfl)),Act.put_look (by simpa [Act.put] using s2),[],?_,fun h=>?_⟩
  ·rw[hσ];exact hr.jk hjk0 hr.b0
  ·rw[ZdW,hsel];simp
theorem Zf2{lv:Nat}{b:Blk}(hg:st.get lv ix=some c)(h:st.put lv ix b=some st'):st.wr lv/\st'=st.upd lv ix b:=by
 have hw:st.wr lv:=by
  unfold St.put at h;unfold St.wr
  by_cases q:lv=st.A.length
  ·rw[if_pos q]at h ⊢
   split at h
   ·simp at h
   ·rename_i hro;simpa using hro
  ·rw[if_neg q]at h ⊢
   unfold ZEA at h
   split at h
   ·rename_i r hr;exact⟨r,hr⟩
   ·simp at h
 refine⟨hw,?_⟩;rw[St.put_upd hw hg]at h;exact (Option.some.inj h).symm
end
def ZJZ:Code->List (Array Oper)
 | .seq a b=>ZJZ a++ZJZ b|.cond _ a b=>ZJZ a++ZJZ b|.block _ b=>ZJZ b|.loop b=>ZJZ b|.scope b=>ZJZ b
 | .region _ ops _=>[ops]
 | _=>[]
noncomputable def cV:Code:=Proofs.Tryz.f13.body.getD .skip
noncomputable def oV(i j:Nat):Oper:=((ZJZ cV).getD i #[]).getD j default
attribute [irreducible] oV
noncomputable def cSh:Code:=Proofs.Tryz.f12.body.getD .skip
noncomputable def oSh(i j:Nat):Oper:=((ZJZ cSh).getD i #[]).getD j default
attribute [irreducible] oSh
noncomputable def cPa:Code:=Proofs.Tryz.f52.body.getD .skip
noncomputable def oPa(i j:Nat):Oper:=((ZJZ cPa).getD i #[]).getD j default
noncomputable def Zq4:Code:=.block 5 (.seq (.region 20 #[oPa 20 0,oPa 20 1,oPa 20 2] false) (.seq (.region 21 #[oPa 21 0,oPa 21 1,oPa 21 2] false) (.region 22 #[oPa 22 0,oPa 22 1,oPa 22 2] false)))
noncomputable def xPaA:Code:=.seq (.region 18 #[oPa 18 0,oPa 18 1] false) (.block 4 (.loop (.seq (.region 19 #[oPa 19 0,oPa 19 1] false) (.seq (.cond (.tmp 60) .skip (.exit 4)) Zq4))))
noncomputable def Zq5:Code:=.block 7 (.seq (.region 25 #[oPa 25 0,oPa 25 1,oPa 25 2] false) (.region 26 #[oPa 26 0,oPa 26 1,oPa 26 2] false))
noncomputable def xPaB:Code:=.seq (.region 23 #[oPa 23 0,oPa 23 1] false) (.block 6 (.loop (.seq (.region 24 #[oPa 24 0,oPa 24 1] false) (.seq (.cond (.tmp 70) .skip (.exit 6)) Zq5))))
noncomputable def xPaE:Code:=.seq (.region 27 #[oPa 27 0,oPa 27 1,oPa 27 2,oPa 27 3,oPa 27 4,oPa 27 5,oPa 27 6,oPa 27 7,oPa 27 8] false) .ret
noncomputable def xPa:Code:=.seq xPaA (.seq xPaB xPaE)
theorem ZnN:OpIs (oPa 18 0) (.move (.tmp 10)) 57:=⟨by kernel_rfl,by kernel_rfl,by kernel_rfl⟩
theorem ZnO:OpIs (oPa 18 1) (.range 94 (.tmp 57)) 58:=⟨by kernel_rfl,by kernel_rfl,by kernel_rfl⟩
theorem ZnP:OpIs (oPa 19 0) (.next (.tmp 58) false) 59:=⟨by kernel_rfl,by kernel_rfl,by kernel_rfl⟩
theorem ZnQ:OpIs (oPa 19 1) (.extract (.tmp 59) 0) 60:=⟨by kernel_rfl,by kernel_rfl,by kernel_rfl⟩
theorem oPa_20_0:OpIs (oPa 20 0) (.entry (.tmp 58)) 61:=⟨by kernel_rfl,by kernel_rfl,by kernel_rfl⟩
theorem oPa_20_1:OpIs (oPa 20 1) (.extract (.tmp 61) 0) 62:=⟨by kernel_rfl,by kernel_rfl,by kernel_rfl⟩
theorem oPa_20_2:OpIs (oPa 20 2) (.assign (.tmp 62)) 16:=⟨by kernel_rfl,by kernel_rfl,by kernel_rfl⟩
theorem ZnR:OpIs (oPa 21 0) (.move (.tmp 8)) 63:=⟨by kernel_rfl,by kernel_rfl,by kernel_rfl⟩
theorem ZnS:OpIs (oPa 21 1) (.move (.tmp 16)) 64:=⟨by kernel_rfl,by kernel_rfl,by kernel_rfl⟩
theorem ZnT:OpN (oPa 21 2) (.call { callee:=.builtin .delete,args:=#[.tmp 63,.tmp 64],argTypes:=#[94,32] }):=⟨by kernel_rfl,by kernel_rfl,by kernel_rfl⟩
theorem ZnU:OpIs (oPa 22 0) (.move (.tmp 11)) 65:=⟨by kernel_rfl,by kernel_rfl,by kernel_rfl⟩
theorem ZnV:OpIs (oPa 22 1) (.move (.tmp 16)) 66:=⟨by kernel_rfl,by kernel_rfl,by kernel_rfl⟩
theorem ZnW:OpN (oPa 22 2) (.call { callee:=.builtin .delete,args:=#[.tmp 65,.tmp 66],argTypes:=#[99,32] }):=⟨by kernel_rfl,by kernel_rfl,by kernel_rfl⟩
theorem ZnX:OpIs (oPa 23 0) (.move (.tmp 11)) 67:=⟨by kernel_rfl,by kernel_rfl,by kernel_rfl⟩
theorem ZnY:OpIs (oPa 23 1) (.range 99 (.tmp 67)) 68:=⟨by kernel_rfl,by kernel_rfl,by kernel_rfl⟩
theorem ZnZ:OpIs (oPa 24 0) (.next (.tmp 68) false) 69:=⟨by kernel_rfl,by kernel_rfl,by kernel_rfl⟩
theorem Zna:OpIs (oPa 24 1) (.extract (.tmp 69) 0) 70:=⟨by kernel_rfl,by kernel_rfl,by kernel_rfl⟩
theorem oPa_25_0:OpIs (oPa 25 0) (.entry (.tmp 68)) 71:=⟨by kernel_rfl,by kernel_rfl,by kernel_rfl⟩
theorem oPa_25_1:OpIs (oPa 25 1) (.extract (.tmp 71) 0) 72:=⟨by kernel_rfl,by kernel_rfl,by kernel_rfl⟩
theorem oPa_25_2:OpIs (oPa 25 2) (.assign (.tmp 72)) 17:=⟨by kernel_rfl,by kernel_rfl,by kernel_rfl⟩
theorem Znb:OpIs (oPa 26 0) (.move (.tmp 8)) 73:=⟨by kernel_rfl,by kernel_rfl,by kernel_rfl⟩
theorem Znc:OpIs (oPa 26 1) (.move (.tmp 17)) 74:=⟨by kernel_rfl,by kernel_rfl,by kernel_rfl⟩
theorem Znd:OpN (oPa 26 2) (.call { callee:=.builtin .delete,args:=#[.tmp 73,.tmp 74],argTypes:=#[94,32] }):=⟨by kernel_rfl,by kernel_rfl,by kernel_rfl⟩
attribute [irreducible] oPa
theorem Zf3{l:Nat}{es:List (AV × AV)}{ks:List H64}{h:H64}(hw:st.wr l)(hg:st.get l i=some (.map es))(hk:YJ es=some ks)(hn:ks.Nodup):ZHz st 0 (hAV h) (.map l i)=some (st.upd l i (.map (QA [h] es))):=by
 show (if J2 0 (hAV h)=true then (ZAe (st.get l i)).bind fun es=>(ZPH (hAV h) es).bind fun es'=>st.put l i (.map es') else none)=_
 rw[if_pos (show J2 0 (hAV h)=true from rfl),hg]
 show (ZPH (hAV h) es).bind (fun es'=>st.put l i (.map es'))=_
 rw[Zdi h hk hn,oS,St.put_upd hw hg]
def dlA(l i8 i10 i11:Nat)(st:St):Option St:=(ZAe (st.get l i8)).bind fun es8=>(ZAe (st.get l i10)).bind fun es10=>(ZAe (st.get l i11)).bind fun es11=>(YJ es8).bind fun ks8=>(YJ es10).bind fun ks10=>(YJ es11).bind fun ks11 =>
 if ks8.Nodup/\ks11.Nodup then (st.put l i8 (.map (QA ks10 es8))).bind fun st1=>st1.put l i11 (.map (QA ks10 es11)) else none
def ZaC:Run:=fun e st=>match QAbs.look e 8,QAbs.look e 10,QAbs.look e 11 with
 | .map l8 i8,.map l10 i10,.map l11 i11=>if l8=l10/\l11=l10/\i8≠i10/\i11≠i10/\i8≠i11 then (dlA l10 i8 i10 i11 st).map fun st'=>(.norm,[(8,.map l10 i8),(10,.map l10 i10),(11,.map l10 i11)],st') else none
 | _,_,_=>none
def dlB(l i8 i11:Nat)(st:St):Option St:=(ZAe (st.get l i8)).bind fun es8=>(ZAe (st.get l i11)).bind fun es11=>(YJ es8).bind fun ks8=>(YJ es11).bind fun ks11 =>
 if ks8.Nodup then st.put l i8 (.map (QA ks11 es8)) else none
def ZaD:Run:=fun e st=>match QAbs.look e 8,QAbs.look e 11 with
 | .map l8 i8,.map l11 i11=>if l8=l11/\i8≠i11 then (dlB l11 i8 i11 st).map fun st'=>(.norm,[(8,.map l11 i8),(10,QAbs.look e 10),(11,.map l11 i11)],st') else none
 | _,_=>none
theorem u94:Proofs.Tryz.prog.underlying 94=some (TypeDesc.map 32 3):=by kernel_rfl
theorem u99:Proofs.Tryz.prog.underlying 99=some (TypeDesc.map 32 4):=by kernel_rfl
theorem k32:ZWK Proofs.Tryz.prog 32=some 0:=by kernel_rfl
theorem sPaA_ok{T:Tab}{W0:World}{B0:Bse}:CodeOk none Proofs.Tryz.prog (S T) 80 W0 B0 xPaA ZaC:=by
 intro e st ρ W a0 r Q hx hr he hn hQ;unfold ZaC at hx
 split at hx
 case h_2=>simp at hx
 rename_i l8 i8 l10 i10 l11 i11 hl8 hl10 hl11
 split at hx
 case isFalse=>simp at hx
 rename_i hc
 obtain⟨rfl,rfl,n1,n2,n3⟩:=hc;simp only[oM,dlA,oB]at hx;obtain⟨st',⟨es8,hes8,es10,hes10,es11,hes11,ks8,hk8,ks10,hk10,ks11,hk11,hx⟩,rfl⟩:=hx
 split at hx
 case isFalse=>simp at hx
 rename_i hnd
 obtain⟨nd8,nd11⟩:=hnd;simp only[oB]at hx;obtain⟨st1,hp1,hp2⟩:=hx;have hg8:=Jj hes8;have hg10:=Jj hes10;have hg11:=Jj hes11;obtain⟨hw,rfl⟩:=Zf2 hg8 hp1
 have gt:∀(s:St) (i j:Nat) (b c:Blk),s.get l11 i=some c->vis (some b)=some b->(s.upd l11 i b).get l11 j=if j=i then some b else s.get l11 j:=fun s i j b c h1 h2=>by
  rw[St.get_upd h1 h2]
  by_cases q:j=i
  ·rw[if_pos ⟨rfl,q⟩,if_pos q]
  ·rw[if_neg (fun h=>q h.2),if_neg q]
 have hg11':(st.upd l11 i8 (.map (QA ks10 es8))).get l11 i11=some (.map es11):=by rw[gt _ _ _ _ _ hg8 rfl,if_neg (Ne.symm n3)];exact hg11
 obtain⟨hw1,rfl⟩:=Zf2 hg11' hp2
 have b8:(ρ l11 i8).b<W.heap.size:=by obtain⟨en,clock,q1,_,_⟩:=(hr.map l11 i8 es8 hg8).ent;exact QH q1
 have b11:(ρ l11 i11).b<W.heap.size:=by obtain⟨en,clock,q1,_,_⟩:=(hr.map l11 i11 es11 hg11).ent;exact QH q1
 have sp8:=hr.msep l11 i8 es8 l11 i10 es10 hg8 hg10 (fun q=>n1 q.2)
 have sp11:=hr.msep l11 i11 es11 l11 i10 es10 hg11 hg10 (fun q=>n2 q.2)
 have e8:=he 8;have e10:=he 10;have e11:=he 11;rw[hl8]at e8;rw[hl10]at e10;rw[hl11]at e11
 have hm:a0.eval (.tmp 10)=.map (some (ρ l11 i10).b):=by
  show a0.tmps.getD 10 Go.undef=_
  generalize a0.tmps.getD 10 Go.undef=m at e10
  cases e10 with
  | map hp =>
   obtain⟨p1,p2,r0,rfl,p3⟩:=hp
   have:=p3 es10 hg10;subst this
   rfl
 refine Zdj hr hg10 hk10 (fun S=>(st.upd l11 i8 (.map (QA S es8))).upd l11 i11 (.map (QA S es11))) ?_ (m:=10) (t1:=57) (it:=58) (nx:=59) (ok:=60) (i1:=18) (i3:=19) (id:=4) ZnN ZnO ZnP ZnQ u94 hm (by omega) (by omega) (by omega) (by omega) (by decide) (by decide) [8,10,11] (by decide) ?_ ?_
 ·simp only[Zdh]
  rw[upd_same hg8,upd_same hg11]
 ·intro S h x en clock seen a' W' hkey hG hsz hdf hK hit hheap hmap hf hx
  have hK8:=hK 8 (by simp)
  have hK11:=hK 11 (by simp)
  have hK10:=hK 10 (by simp)
  unfold Zq4;refine wpIn_block (wpIn_seq (wpIn_region ?_))
  show wpOpsIn (fen none) 0 _ #[oPa 20 0,oPa 20 1,oPa 20 2] _ [0,1,2] a' W'
  rw[wpOpsIn_cons]
  refine YU oPa_20_0 Y (by simp) (ZJO (it:=.tmp 58) oPa_20_0.op hit hheap hmap hf hx) ?_
  rw[wpOpsIn_cons]
  refine YU oPa_20_1 Y (by simp) (ZCf (t:=.tmp 61) (k:=0) (x:=x.key) oPa_20_1.op (Act.put_look (by omega)) Y) ?_
  rw[wpOpsIn_cons]
  refine YU oPa_20_2 Y (by simp) (Jn (x:=.tmp 62) (.inr oPa_20_2.op)) ?_
  rw[Act.put_look (by simp[Act.put];omega)]
  show Code.wpIn _ _ _ _ _ _ _
  generalize hb:((a'.put (some 61) (.tuple #[x.key,x.val])).put (some 62) x.key).put (some 16) x.key=a2
  have s2:a2.tmps.size=a0.tmps.size:=by rw[<- hb];simpa [Act.put] using hsz
  have d2:a2.defers=a0.defers:=by rw[<- hb];exact hdf
  have f8:a2.eval (.tmp 8)=a0.eval (.tmp 8):=by rw[<- hb,Act.put_other (by decide),Act.put_other (by decide),Act.put_other (by decide)];exact hK8
  have f10:a2.eval (.tmp 10)=a0.eval (.tmp 10):=by rw[<- hb,Act.put_other (by decide),Act.put_other (by decide),Act.put_other (by decide)];exact hK10
  have f11:a2.eval (.tmp 11)=a0.eval (.tmp 11):=by rw[<- hb,Act.put_other (by decide),Act.put_other (by decide),Act.put_other (by decide)];exact hK11
  have f58:a2.eval (.tmp 58)=.pointer (some ⟨W.heap.size,0,none⟩):=by rw[<- hb,Act.put_other (by decide),Act.put_other (by decide),Act.put_other (by decide)];exact hit
  have f16:a2.eval (.tmp 16)=encH h:=by rw[<- hb,<- hkey];exact Act.put_look (by simp[Act.put];omega)
  clear hb;have w0:(st.upd l11 i8 (.map (QA S es8))).wr l11:=St.wr_upd hw hw
  have g11:(st.upd l11 i8 (.map (QA S es8))).get l11 i11=some (.map es11):=by rw[gt _ _ _ _ _ hg8 rfl,if_neg (Ne.symm n3)];exact hg11
  have g8:(st.upd l11 i8 (.map (QA S es8))).get l11 i8=some (.map (QA S es8)):=by rw[gt _ _ _ _ _ hg8 rfl,if_pos rfl]
  have w1:((st.upd l11 i8 (.map (QA S es8))).upd l11 i11 (.map (QA S es11))).wr l11:=St.wr_upd w0 w0
  have k8:((st.upd l11 i8 (.map (QA S es8))).upd l11 i11 (.map (QA S es11))).get l11 i8=some (.map (QA S es8)):=by rw[gt _ _ _ _ _ g11 rfl,if_neg n3];exact g8
  have k11:((st.upd l11 i8 (.map (QA S es8))).upd l11 i11 (.map (QA S es11))).get l11 i11=some (.map (QA S es11)):=by rw[gt _ _ _ _ _ g11 rfl,if_pos rfl]
  have m1:=Zf3 (h:=h) w1 k8 (ZGT S hk8) (nd8.filter _)
  refine wpIn_seq (ZSA ZnR ZnS ZnT (by decide) (by decide) (by omega) (by omega) u94 k32 hG.rel (by rw[hG.ev.len,f8];exact e8.mono (hG.ev.le _ (Nat.le_refl _))) f16 m1 ?_)
  intro W2 hG2 hsz2 hfr2;have hG3:=hG.trans hG2;have w2:(((st.upd l11 i8 (.map (QA S es8))).upd l11 i11 (.map (QA S es11))).upd l11 i8 (.map (QA [h] (QA S es8)))).wr l11:=St.wr_upd w1 w1
  have q11:(((st.upd l11 i8 (.map (QA S es8))).upd l11 i11 (.map (QA S es11))).upd l11 i8 (.map (QA [h] (QA S es8)))).get l11 i11=some (.map (QA S es11)):=by rw[gt _ _ _ _ _ k8 rfl,if_neg (Ne.symm n3)];exact k11
  have m2:=Zf3 (h:=h) w2 q11 (ZGT S hk11) (nd11.filter _)
  have t8:∀(t:Nat),t≠63->t≠64->((a2.put (some 63) (a2.eval (.tmp 8))).put (some 64) (encH h)).eval (.tmp t)=a2.eval (.tmp t):=fun t h1 h2=>by rw[Act.put_other (Ne.symm h2),Act.put_other (Ne.symm h1)]
  generalize hb:(a2.put (some 63) (a2.eval (.tmp 8))).put (some 64) (encH h)=a3 at *
  have s3:a3.tmps.size=a0.tmps.size:=by rw[<- hb];simpa [Act.put] using s2
  have d3:a3.defers=a0.defers:=by rw[<- hb];exact d2
  clear hb
  refine ZSA ZnU ZnV ZnW (by decide) (by decide) (by omega) (by omega) u99 k32 hG3.rel (by rw[hG3.ev.len,t8 11 (by decide) (by decide),f11];exact e11.mono (hG3.ev.le _ (Nat.le_refl _))) (by rw[t8 16 (by decide) (by decide)];exact f16) m2 ?_
  intro W3 hG4 hsz4 hfr4;have hG5:=hG3.trans hG4
  refine⟨rfl,?_,?_,?_,by simpa [Act.put] using s3,d3,?_,?_⟩
  ·have : ((((st.upd l11 i8 (.map (QA S es8))).upd l11 i11 (.map (QA S es11))).upd l11 i8 (.map (QA [h] (QA S es8)))).upd l11 i11 (.map (QA [h] (QA S es11)))) = (st.upd l11 i8 (.map (QA (h :: S) es8))).upd l11 i11 (.map (QA (h :: S) es11)) := by
    rw[ZJX,ZJX,ZJW (ix:=i11) (jx:=i8) (Ne.symm n3),ZD6,ZD6]
   rw[this]at hG5;exact hG5
  ·rw[hfr4 _ (by omega),hfr2 _ (by omega)]
  ·rw[hfr4 _ (Ne.symm sp11),hfr2 _ (Ne.symm sp8)]
  ·intro t ht
   have h1:t≠65/\t≠66/\t≠63/\t≠64:=by simp at ht;omega
   rw[Act.put_other (Ne.symm h1.2.1),Act.put_other (Ne.symm h1.1),t8 t h1.2.2.1 h1.2.2.2];simp only[List.mem_cons,List.not_mem_nil,or_false]at ht
   rcases ht with rfl|rfl|rfl
   ·exact f8
   ·exact f10
   ·exact f11
  ·rw[Act.put_other (by decide),Act.put_other (by decide),t8 58 (by decide) (by decide)];exact f58
 ·intro S a' W' hS hG hsz hdf hK
  have:(st.upd l11 i8 (.map (QA S es8))).upd l11 i11 (.map (QA S es11))=(st.upd l11 i8 (.map (QA ks10 es8))).upd l11 i11 (.map (QA ks10 es11)):=by rw[ZJY hS,ZJY hS]
  rw[this]at hG;refine hQ a' ρ W' hG ?_ hsz hdf;intro t;have hmo:=hG.ev.le _ (Nat.le_refl _);have hlen:=hG.ev.len
  show QAbs.R (cx _ ρ W' (St.A _).length) _ _
  rw[hlen]
  by_cases h8:t=8
  ·subst h8
   have q:a'.tmps.getD 8 Go.undef=a0.tmps.getD 8 Go.undef:=hK 8 (by simp)
   rw[q];exact e8.mono hmo
  by_cases h10:t=10
  ·subst h10
   have q:a'.tmps.getD 10 Go.undef=a0.tmps.getD 10 Go.undef:=hK 10 (by simp)
   rw[q];exact e10.mono hmo
  by_cases h11:t=11
  ·subst h11
   have q:a'.tmps.getD 11 Go.undef=a0.tmps.getD 11 Go.undef:=hK 11 (by simp)
   rw[q];exact e11.mono hmo
  have q:QAbs.look [((8:Nat),AV.map l11 i8),(10,.map l11 i10),(11,.map l11 i11)] t=.any:=by simp[QAbs.look,Ne.symm h8,Ne.symm h10,Ne.symm h11]
  show QAbs.R _ (QAbs.look [((8:Nat),AV.map l11 i8),(10,.map l11 i10),(11,.map l11 i11)] t) _
  rw[q];exact .any _
end Go.Q15
namespace Go.QAbs
variable {v v' vx z:AV}{c:Blk}{agg ro:Bool}{e:Env}{f:FuncId}{A:List (Bool × List Blk)}{es ys:LV}{s:B8}{d g i ix jb jx k n o ob pl px ver w:Nat}{a x:Opd}{O:Orc}{st:St}{Q:YD}
section
variable {P:Program}{O:Orc}
def fnK(F:Run)(rs:List RV):LV->St->OS:=fun args st=>(F (QO 0 args) st).bind (Qj true rs)
theorem Zrc{fn:Func}{c:Code}{F:Run}{rs:List RV}(hf:P.funcs[f]?=some fn)(hb:fn.body=some c)(hF:∀W0 B0,KG P W0 B0->CodeOk none P O fn.ntmps W0 B0 c F)(hX:FrX F)
 (hrs:fn.results.toList.mapM (ZBJ P)=some rs):ZKn P f (.base (fnK F rs)):=by
 refine⟨fun args=>?_,?_⟩
 ·intro st r hr
  simp only[fnK,oB]at hr;obtain⟨x,h1,h2⟩:=hr;obtain⟨k1,k2⟩:=hX.to h1;obtain⟨v,e1,e2,e3⟩:=Zgm h2;simp only[if_true,Qd,oJ]at e2;subst e2
  refine⟨k1,fun M i B hh=>?_⟩
  simp only[fnK,k2 M i B hh,oS];rw[e3,ZJk _ _ _ _ e1 M i B (hh.of_tags k1)];rfl
 intro args st v st' h W0 B0 ρ W xs hg hr hx;have h:(F (QO 0 args) st).bind (Qj true rs)=some (v,st'):=h;simp only[oB]at h;obtain⟨⟨ex,e1,st1⟩,hex,hend⟩:=h;refine (callsIn_wide (n:=0)).1 (callsIn_of_wp_marks (F:=.wide) hf hb trivial ?_)
 have hsz:fn.ntmps<=(xs.toArray++Array.replicate (fn.ntmps-xs.toArray.size) Go.undef).size:=by simp;omega
 refine hF W0 B0 hg (QO 0 args) st ρ W { tmps:=xs.toArray++Array.replicate (fn.ntmps-xs.toArray.size) Go.undef,defers:=[] } (ex,e1,st1) _ hex hr
  (ZCv hx _) hsz ?_
 intro a' ρ' W' g he' _ hd'
 have key:(QT st1 e1 rs).bind (Qd st1)=some (v,st')->LeavesInM .wide 0 P fn a'.tmps (fun e W'=>∃x ρ',e=.returned x/\Goes W0 B0 st ρ W st' ρ' W'/\QAbs.R (cx st' ρ' W' st'.A.length) v x) a'.defers .returning W':=by
  intro hend;rw[hd'];simp only[oB,Qd,oJ,jP]at hend;obtain⟨v0,hv,rfl,rfl⟩:=hend;obtain⟨x,hx,hxv⟩:=ZEZ hrs hv g.rel he';exact⟨x,hx,x,ρ',rfl,g,hxv⟩
 cases ex with
 | norm=>exact key (by simpa [Qj] using hend)
 | ret=>exact key (by simpa [Qj] using hend)
 | ex id=>simp[Qj]at hend
end
end Go.QAbs
namespace Go.Q15
open Go Go.QAbs
open Go.ChangeMaps (setBlock)
variable {v v' vx z:AV}{c:Blk}{agg ro:Bool}{e:Env}{f:FuncId}{A:List (Bool × List Blk)}{es ys:LV}{is:List PI}{s:B8}{d g i ix jb jx k n o ob pl px ver w:Nat}{a x:Opd}{O:Orc}{st:St}{t:Tr}{Q:YD}
theorem sPaB_ok{T:Tab}{W0:World}{B0:Bse}:CodeOk none Proofs.Tryz.prog (S T) 80 W0 B0 xPaB ZaD:=by
 intro e st ρ W a0 r Q hx hr he hn hQ;unfold ZaD at hx
 split at hx
 case h_2=>simp at hx
 rename_i l8 i8 l11 i11 hl8 hl11
 split at hx
 case isFalse=>simp at hx
 rename_i hc
 obtain⟨rfl,n3⟩:=hc;simp only[oM,dlB,oB]at hx;obtain⟨st',⟨es8,hes8,es11,hes11,ks8,hk8,ks11,hk11,hx⟩,rfl⟩:=hx
 split at hx
 case isFalse=>simp at hx
 rename_i nd8
 have hg8:=Jj hes8;have hg11:=Jj hes11;obtain⟨hw,rfl⟩:=Zf2 hg8 hx
 have b8:(ρ l8 i8).b<W.heap.size:=by obtain⟨en,clock,q1,_,_⟩:=(hr.map l8 i8 es8 hg8).ent;exact QH q1
 have sp8:=hr.msep l8 i8 es8 l8 i11 es11 hg8 hg11 (fun q=>n3 q.2)
 have e8:=he 8;have e10:=he 10;have e11:=he 11;rw[hl8]at e8;rw[hl11]at e11
 have hm:a0.eval (.tmp 11)=.map (some (ρ l8 i11).b):=by
  show a0.tmps.getD 11 Go.undef=_
  generalize a0.tmps.getD 11 Go.undef=m at e11
  cases e11 with
  | map hp =>
   obtain⟨p1,p2,r0,rfl,p3⟩:=hp
   have:=p3 es11 hg11;subst this
   rfl
 refine Zdj hr hg11 hk11 (fun S=>st.upd l8 i8 (.map (QA S es8))) ?_ (m:=11) (t1:=67) (it:=68) (nx:=69) (ok:=70) (i1:=23) (i3:=24) (id:=6) ZnX ZnY ZnZ Zna u99 hm (by omega) (by omega) (by omega) (by omega) (by decide) (by decide) [8,10,11] (by decide) ?_ ?_
 ·simp only[Zdh]
  rw[upd_same hg8]
 ·intro S h x en clock seen a' W' hkey hG hsz hdf hK hit hheap hmap hf hx
  have hK8:=hK 8 (by simp)
  have hK11:=hK 11 (by simp)
  have hK10:=hK 10 (by simp)
  unfold Zq5;refine wpIn_block (wpIn_seq (wpIn_region ?_))
  show wpOpsIn (fen none) 0 _ #[oPa 25 0,oPa 25 1,oPa 25 2] _ [0,1,2] a' W'
  rw[wpOpsIn_cons]
  refine YU oPa_25_0 Y (by simp) (ZJO (it:=.tmp 68) oPa_25_0.op hit hheap hmap hf hx) ?_
  rw[wpOpsIn_cons]
  refine YU oPa_25_1 Y (by simp) (ZCf (t:=.tmp 71) (k:=0) (x:=x.key) oPa_25_1.op (Act.put_look (by omega)) Y) ?_
  rw[wpOpsIn_cons]
  refine YU oPa_25_2 Y (by simp) (Jn (x:=.tmp 72) (.inr oPa_25_2.op)) ?_
  rw[Act.put_look (by simp[Act.put];omega)]
  show Code.wpIn _ _ _ _ _ _ _
  generalize hb:((a'.put (some 71) (.tuple #[x.key,x.val])).put (some 72) x.key).put (some 17) x.key=a2
  have s2:a2.tmps.size=a0.tmps.size:=by rw[<- hb];simpa [Act.put] using hsz
  have d2:a2.defers=a0.defers:=by rw[<- hb];exact hdf
  have f8:a2.eval (.tmp 8)=a0.eval (.tmp 8):=by rw[<- hb,Act.put_other (by decide),Act.put_other (by decide),Act.put_other (by decide)];exact hK8
  have f10:a2.eval (.tmp 10)=a0.eval (.tmp 10):=by rw[<- hb,Act.put_other (by decide),Act.put_other (by decide),Act.put_other (by decide)];exact hK10
  have f11:a2.eval (.tmp 11)=a0.eval (.tmp 11):=by rw[<- hb,Act.put_other (by decide),Act.put_other (by decide),Act.put_other (by decide)];exact hK11
  have f58:a2.eval (.tmp 68)=.pointer (some ⟨W.heap.size,0,none⟩):=by rw[<- hb,Act.put_other (by decide),Act.put_other (by decide),Act.put_other (by decide)];exact hit
  have f16:a2.eval (.tmp 17)=encH h:=by rw[<- hb,<- hkey];exact Act.put_look (by simp[Act.put];omega)
  clear hb;have w0:(st.upd l8 i8 (.map (QA S es8))).wr l8:=St.wr_upd hw hw
  have g8:(st.upd l8 i8 (.map (QA S es8))).get l8 i8=some (.map (QA S es8)):=by rw[St.get_upd hg8 rfl,if_pos ⟨rfl,rfl⟩]
  have m1:=Zf3 (h:=h) w0 g8 (ZGT S hk8) (nd8.filter _)
  refine ZSA Znb Znc Znd (by decide) (by decide) (by omega) (by omega) u94 k32 hG.rel (by rw[hG.ev.len,f8];exact e8.mono (hG.ev.le _ (Nat.le_refl _))) f16 m1 ?_
  intro W2 hG2 hsz2 hfr2;have hG3:=hG.trans hG2
  refine⟨rfl,?_,?_,?_,by simpa [Act.put] using s2,d2,?_,?_⟩
  ·rw[ZJX,ZD6]at hG3
   exact hG3
  ·rw[hfr2 _ (by omega)]
  ·rw[hfr2 _ (Ne.symm sp8)]
  ·intro t ht
   have h1:t≠73/\t≠74:=by simp at ht;omega
   rw[Act.put_other (Ne.symm h1.2),Act.put_other (Ne.symm h1.1)];simp only[List.mem_cons,List.not_mem_nil,or_false]at ht
   rcases ht with rfl|rfl|rfl
   ·exact f8
   ·exact f10
   ·exact f11
  ·rw[Act.put_other (by decide),Act.put_other (by decide)];exact f58
 ·intro S a' W' hS hG hsz hdf hK
  rw[ZJY hS]at hG;refine hQ a' ρ W' hG ?_ hsz hdf;intro t;have hmo:=hG.ev.le _ (Nat.le_refl _);have hlen:=hG.ev.len
  show QAbs.R (cx _ ρ W' (St.A _).length) _ _
  rw[hlen]
  by_cases h8:t=8
  ·subst h8
   have q:a'.tmps.getD 8 Go.undef=a0.tmps.getD 8 Go.undef:=hK 8 (by simp)
   rw[q];exact e8.mono hmo
  by_cases h10:t=10
  ·subst h10
   have q:a'.tmps.getD 10 Go.undef=a0.tmps.getD 10 Go.undef:=hK 10 (by simp)
   rw[q];exact e10.mono hmo
  by_cases h11:t=11
  ·subst h11
   have q:a'.tmps.getD 11 Go.undef=a0.tmps.getD 11 Go.undef:=hK 11 (by simp)
   rw[q];exact e11.mono hmo
  have q:QAbs.look [((8:Nat),AV.map l8 i8),(10,QAbs.look e 10),(11,.map l8 i11)] t=.any:=by simp[QAbs.look,Ne.symm h8,Ne.symm h10,Ne.symm h11]
  show QAbs.R _ (QAbs.look [((8:Nat),AV.map l8 i8),(10,QAbs.look e 10),(11,.map l8 i11)] t) _
  rw[q];exact .any _
theorem ZqK:FrX ZaC:=FrX.of fun e st r hr=>by
 unfold ZaC at hr ⊢
 split at hr
 case h_2=>simp at hr
 rename_i l8 i8 l10 i10 l11 i11 h1 h2 h3
 split at hr
 case isFalse=>simp at hr
 rename_i hc
 simp only[oM,dlA,oB]at hr;obtain⟨st',⟨es8,hes8,es10,hes10,es11,hes11,ks8,hk8,ks10,hk10,ks11,hk11,hx⟩,rfl⟩:=hr
 split at hx
 case isFalse=>simp at hx
 rename_i hnd
 simp only[oB]at hx;obtain⟨st1,hp1,hp2⟩:=hx;have hg8:=Jj hes8;have hg10:=Jj hes10;have hg11:=Jj hes11;obtain⟨k1,k2⟩:=ZFH hg8 rfl hp1;obtain⟨hw,e1⟩:=Zf2 hg8 hp1
 have hg11':st1.get l10 i11=some (.map es11):=by
  rw[e1,St.get_upd hg8 rfl,if_neg (fun q=>hc.2.2.2.2 q.2.symm)];exact hg11
 obtain⟨k3,k4⟩:=ZFH hg11' rfl hp2
 refine⟨k3.trans k1,fun M i B hh=>?_⟩
 have m8:=Qp (B:=B) hh l10 i8 _ hg8;have m10:=Qp (B:=B) hh l10 i10 _ hg10;have m11:=Qp (B:=B) hh l10 i11 _ hg11;simp only[if_pos hc,dlA,m8,m10,m11,ZAe,oS,hk8,hk10,hk11,if_pos hnd,k2 M i B hh,k4 M i B (hh.of_tags k1),Option.map_some]
theorem ZqL:FrX ZaD:=FrX.of fun e st r hr=>by
 unfold ZaD at hr ⊢
 split at hr
 case h_2=>simp at hr
 rename_i l8 i8 l11 i11 h1 h3
 split at hr
 case isFalse=>simp at hr
 rename_i hc
 simp only[oM,dlB,oB]at hr;obtain⟨st',⟨es8,hes8,es11,hes11,ks8,hk8,ks11,hk11,hx⟩,rfl⟩:=hr
 split at hx
 case isFalse=>simp at hx
 rename_i hnd
 have hg8:=Jj hes8;have hg11:=Jj hes11;obtain⟨k1,k2⟩:=ZFH hg8 rfl hx
 refine⟨k1,fun M i B hh=>?_⟩
 have m8:=Qp (B:=B) hh l11 i8 _ hg8;have m11:=Qp (B:=B) hh l11 i11 _ hg11;simp only[if_pos hc,dlB,m8,m11,ZAe,oS,hk8,hk11,if_pos hnd,k2 M i B hh,Option.map_some]
end Go.Q15
namespace Go.Q15
open Go Go.QAbs
variable {v v' vx z:AV}{c:Blk}{agg ro:Bool}{e:Env}{f:FuncId}{A:List (Bool × List Blk)}{es ys:LV}{is:List PI}{s:B8}{d g i ix jb jx k n o ob pl px ver w:Nat}{a x:Opd}{O:Orc}{st:St}{t:Tr}{Q:YD}
noncomputable def ZGt(N:ZO)(t:Tr)(a n:Int)(s:B8):Tr :=
 if n=0/\s=[] then t
 else concM N (concM N (cutF N t.h t a).1 (Qt s)) (cutF N (cutF N t.h t a).2.h (cutF N t.h t a).2 n).2
structure ReplOk(N:ZO)(t:Tr)(a n:Int)(s:B8)(r:Tr):Prop where
 ve:VE N r
 txt:r.txt N=(t.txt N).take a.toNat++s++(t.txt N).drop (a+n).toNat
 bytes:r.bytes=t.bytes-n+s.length
theorem ZOy{N:ZO}(hN:GoodN N)(ht:VE N t){a n:Int}(h0:0<=a)(h1:0<=n)(h2:a+n<=t.bytes)(hb:t.bytes<=65536)(hs:t.bytes-n+s.length<=65536):ReplOk N t a n s (ZGt N t a n s):=by
 unfold ZGt
 split
 ·rename_i h
  obtain⟨rfl,rfl⟩:=h
  exact⟨ht,by simp,by simp⟩
 ·have c1:=ZOw hN t.h t a ht rfl h0 (by omega) hb
  generalize cutF N t.h t a=q at *
  obtain⟨l,m⟩:=q
  simp only at *
  have hm:=c1.rb;have hl:=c1.lb
  simp only at hm hl
  have c2:=ZOw hN m.h m n c1.r rfl h1 (by omega) (by omega)
  generalize cutF N m.h m n=q at *
  obtain⟨d,r⟩:=q
  simp only at *
  have hr:=c2.rb
  simp only at hr
  obtain⟨b1,b2,b3⟩:=Xw hN (s:=s) (by omega)
  have k1:=ZDX hN c1.l b1 (by rw[b3];simp only;omega)
  have k2:=ZDX hN k1.ve c2.r (by rw[k1.bytes,b3];simp only;omega)
  refine⟨k2.ve,?_,by rw[k2.bytes,k1.bytes,b3];simp only;omega⟩
  rw[k2.txt,k1.txt,b2];have e1:=c1.lt;have e2:=c1.rt;have e3:=c2.rt
  simp only at e1 e2 e3 ⊢
  rw[e1,e3,e2,List.drop_drop,show a.toNat+n.toNat=(a+n).toNat by omega]
theorem Zdk{N:ZO}(hN:GoodN N){lv:Nat}(hr:Rd st lv ix N)(ht:VE N t){a n:Int}(h0:0<=a)(h1:0<=n)(h2:a+n<=t.bytes)(hb:t.bytes<=65536)(hs:t.bytes-n+s.length<=65536):
 S Tb ZAj [.ptr lv ix 0 0 0,t.av,.int .i64 a,.int .i64 n,.str s] st=some (.tup [(ZGt N t a n s).own.av,.int .i64 0],st):=by
 refine QK Y (fun A hA=>?_)
 have hrp:=fun L=>hr.push hA (ro:=false) (L:=L)
 have hC:=fun L=>ZZ7 (hrp L) ht hb
 have hB:=fun st=>ZCU t ht.pos.1 (by omega) st
 have hpos:=ht.pos.2
 by_cases hz:n=0/\s=[]
 ·have he:ZGt N t a n s=t:=by unfold ZGt;rw[if_pos hz]
  rw[he];obtain⟨rfl,rfl⟩:=hz
  have hO:=fun st=>Zq2 t ht.pos.1 st
  generalize t.own=o at *
  repeat'(first|refine ZE ?_|refine ZD ?_|refine ZF Y ?_|refine QB Y ?_|refine Q6 Y Y ?_|refine Zl Y Y Y Y ?_|refine ZB Y ?_|refine ZC ?_|refine Zmw Y Y ?_|(refine cm0 Y Y Y ?_ ?_<;>intro _<;>try omega)|(refine cm0 Y Y Y ?_ ?_<;>intro _<;>try omega)|(refine cm0 Y Y Y ?_ ?_<;>intro _<;>try omega)|(refine cm0 Y Y Y ?_ ?_<;>intro _<;>try omega)|(refine ZAG Y Y (fun _=>?_) (fun _=>?_)<;>try contradiction)|refine ZS Y ?_|refine ZG Y ?_|refine YE Y Y (by omega) ?_|refine Zw Y Y Y ?_|refine Zn Y Y Y ?_|refine Zy Y Y Y Y Y Y ?_|refine ZV Y Y Y (Zp _) ?_|refine Zy Y Y Y (QQ _ _ _) (Qx _ _) Y ?_|refine Z0 Y (Z6 _) (QJ _) ?_|refine ZA Y Y (by first|rfl|(simp only[lE,lN,lC,Zg,ZX,ZY];first|done|rfl)) (hC _) ?_|refine ZA Y Y (by first|rfl|(simp only[lE,lN,lC,Zg,ZX,ZY];first|done|rfl)) (hB _) ?_|refine ZA Y Y (by first|rfl|(simp only[lE,lN,lC,Zg,ZX,ZY];first|done|rfl)) (hO _) ?_|refine ZeR Y Y ?_|refine ZI ?_|refine ZP ?_|refine ZL ?_|refine Zb ?_)
  all_goals try (simp only[jB,if_false]at *)
  all_goals try omega
  all_goals first|(exact ZD5 hA (.inr Y) Y Y Y Y)|(exact absurd ⟨by assumption,by assumption⟩ hz)
 ·have hK1:=fun L=>Zq3 hN t.h (hrp L) ht rfl a h0 (by omega) hb
  have c1:=ZOw hN t.h t a ht rfl h0 (by omega) hb
  have hrm:ZGt N t a n s=concM N (concM N (cutF N t.h t a).1 (Qt s)) (cutF N (cutF N t.h t a).2.h (cutF N t.h t a).2 n).2:=by unfold ZGt;rw[if_neg hz]
  have hO0:=(ZOy hN ht h0 h1 h2 hb hs).ve.pos.1
  generalize cutF N t.h t a=q at *
  obtain⟨l,m⟩:=q
  simp only at *
  have hm:=c1.rb;have hl:=c1.lb;have vl:=c1.l;have vm:=c1.r
  simp only at hm hl vl vm
  have hK2:=fun L=>Zq3 hN m.h (hrp L) vm rfl n h1 (by omega) (by omega)
  have c2:=ZOw hN m.h m n vm rfl h1 (by omega) (by omega)
  generalize cutF N m.h m n=q at *
  obtain⟨d,r⟩:=q
  simp only at *
  have vr:=c2.r;have hrb:=c2.rb
  simp only at vr hrb
  obtain⟨b1,b2,b3⟩:=Xw hN (s:=s) (by omega)
  have hBu:=fun st=>Zf0 hN s (by omega) st
  generalize Qt s=b at *
  have hc1:=fun L=>ZOx hN (hrp L) vl b1
  have k1:=(ZDX hN vl b1 (by omega)).ve
  generalize concM N l b=z1 at *
  have hc2:=fun L=>ZOx hN (hrp L) k1 vr
  generalize concM N z1 r=z2 at *
  rw[hrm]at hO0 ⊢
  have hO:=fun st=>Zq2 z2 hO0 st
  generalize z2.own=zo at *
  have hmin:∀x:Int,min x 65536<=x/\min x 65536<=65536/\(min x 65536=x\/min x 65536=65536):=fun x=>by omega
  have hmin2:=hmin s.length
  repeat'(first|refine ZE ?_|refine ZD ?_|refine ZF Y ?_|refine QB Y ?_|refine Q6 Y Y ?_|refine Zl Y Y Y Y ?_|refine Zr Y Y ?_|refine ZB Y ?_|refine ZC ?_|refine YY Y ?_|(refine cm0 Y Y Y ?_ ?_<;>intro _<;>try omega)|(refine cm0 Y Y Y ?_ ?_<;>intro _<;>try omega)|(refine cm0 Y Y Y ?_ ?_<;>intro _<;>try omega)|(refine cm0 Y Y Y ?_ ?_<;>intro _<;>try omega)|(refine ZAG Y Y (fun _=>?_) (fun _=>?_)<;>try contradiction)|refine ZS Y ?_|refine ZG Y ?_|refine YE Y Y (by omega) ?_|refine Zw Y Y Y ?_|refine Zn Y Y Y ?_|refine Zy Y Y Y Y Y Y ?_|refine ZV Y Y Y (Zp _) ?_|refine Zy Y Y Y (QQ _ _ _) (Qx _ _) Y ?_|refine Z0 Y (Z6 _) (QJ _) ?_|refine ZA Y Y (by first|rfl|(simp only[lE,lN,lC,Zg,ZX,ZY];first|done|rfl)) (hC _) ?_|refine ZA Y Y (by first|rfl|(simp only[lE,lN,lC,Zg,ZX,ZY];first|done|rfl)) (hB _) ?_|refine ZA Y Y (by first|rfl|(simp only[lE,lN,lC,Zg,ZX,ZY];first|done|rfl)) (hK1 _) ?_|refine ZA Y Y (by first|rfl|(simp only[lE,lN,lC,Zg,ZX,ZY];first|done|rfl)) (hK2 _) ?_|refine ZA Y Y (by first|rfl|(simp only[lE,lN,lC,Zg,ZX,ZY];first|done|rfl)) (hBu _) ?_|refine ZA Y Y (by first|rfl|(simp only[lE,lN,lC,Zg,ZX,ZY];first|done|rfl)) (hc1 _) ?_|refine ZA Y Y (by first|rfl|(simp only[lE,lN,lC,Zg,ZX,ZY];first|done|rfl)) (hc2 _) ?_|refine ZA Y Y (by first|rfl|(simp only[lE,lN,lC,Zg,ZX,ZY];first|done|rfl)) (hO _) ?_|refine ZeR Y Y ?_|refine ZI ?_|refine ZP ?_|refine ZL ?_|refine Zb ?_)
  all_goals try (simp only[jB,if_false]at *)
  all_goals try omega
  all_goals first|(exact ZD5 hA (.inr Y) Y Y Y Y)|(exact absurd ⟨by assumption,by assumption⟩ hz)
def hd(N:ZO):Nat:=1*65536+N.length
theorem ZaE:∀ {N M:ZO} {o:Nat},lk (N++M) o=(lk N o).or (lk M o)
 | [],M,o=>by simp[lk]
 | p::N,M,o=>by
  rw[lC,lk,lk]
  by_cases c:p.1=o
  ·rw[if_pos c,if_pos c];rfl
  ·rw[if_neg c,if_neg c,ZaE]
theorem ZOz:GoodN []:=fun o x h=>by simp[lk]at h
theorem ZO0(s:B8):s.countP ZR4<=s.countP ZD4:=by
 refine List.countP_mono_left (fun b _ h=>?_)
 unfold ZR4 at h;unfold ZD4
 simp at h ⊢
 omega
theorem NdOk.kid{y:Nd}(h:NdOk y)(hl:(leastB y.h:Int)<=y.mea.b){a:Nat}(ha:Yc a):KidOk y.h ⟨a,y.mea⟩:=by
 rcases h with h|⟨n,ks,h⟩
 ·have hm:y.mea=Yw y.text:=by unfold Nd.mea;rw[if_pos h.h]
  have h1:=h.hi;have h2:=ZO0 y.text;have h3:=List.countP_le_length (p:=ZD4) (l:=y.text);refine⟨ha,hl,?_,?_,?_,?_,?_⟩
  all_goals simp only[hm,Yw,h.h,mostB]
  all_goals omega
 ·have e:=h.eq
  subst e;have hms:Nd.mea ⟨n+1,[],some ks⟩=QI (ks.map Kid.m):=rfl;have hs:=h.sum;have hhi:=h.hi;have hk:=h.kid
  have key:∀(l:List Kid),(∀k∈l,KidOk n k)->(QI (l.map Kid.m)).b<=l.length*(mostB n:Int)/\0<=(QI (l.map Kid.m)).r/\(QI (l.map Kid.m)).r<=(QI (l.map Kid.m)).b/\0<=(QI (l.map Kid.m)).l/\(QI (l.map Kid.m)).l<=(QI (l.map Kid.m)).r:=by
   intro l
   induction l with
   | nil=>intro _;simp[QI,Mea.zero]
   | cons k l ih =>
    intro hk
    obtain⟨i1,i2,i3,i4,i5⟩:=ih (fun k hk'=>hk k (by simp[hk']))
    have hk1:=hk k (by simp)
    have a1:=hk1.hi;have a2:=hk1.r0;have a3:=hk1.rb;have a4:=hk1.l0;have a5:=hk1.lr;simp only[jC,QI,Mea.add,List.length_cons]
    have:((l.length+1:Nat):Int)*(mostB n:Int)=l.length*(mostB n:Int)+mostB n:=by
     rw[Int.natCast_add,Int.add_mul];simp
    refine⟨?_,?_,?_,?_,?_⟩<;>omega
  obtain⟨k1,k2,k3,k4,k5⟩:=key ks hk
  have h4:(ks.length:Int)*(mostB n:Int)<=4*(mostB n:Int):=Int.mul_le_mul_of_nonneg_right (by omega) (by omega)
  have hm:=ZOs n;refine⟨ha,hl,?_,?_,?_,?_,?_⟩
  all_goals simp only[hms,mostB]
  all_goals omega
def arK(lv b:Nat):List (Nat × Nat):=[(lv,b),(lv,b+1),(lv,b+2),(lv,b+3),(lv,b+4),(lv,b+5)]
def arB(lv b:Nat)(r:AR):List Blk:=[r.b0,r.b1,r.b2,r.b3 lv b,r.b4,r.b5 lv b]
def Qh(st:St)(lv b:Nat)(r:AR):St:=Ji st (arK lv b) (arB lv b r)
theorem ZSB(lv b:Nat):(arK lv b).Nodup:=by simp[arK]
section
variable {st:St}{lv b:Nat}{r:AR}
theorem Has.cl(h:Has st lv b r):Cl st (arK lv b) (arB lv b r):=by
 refine⟨ZSB lv b,rfl,fun k hk=>?_,fun j l i c h1 h2=>?_⟩
 ·simp only[arK,List.mem_cons,List.not_mem_nil,or_false]at hk
  rcases hk with rfl|rfl|rfl|rfl|rfl|rfl<;>exact h.wr
 ·match j,h1,h2 with
  | 0,h1,h2=>obtain⟨rfl,rfl⟩:=Prod.mk.inj (Option.some.inj h1);obtain rfl:=Option.some.inj h2;exact h.h0
  | 1,h1,h2=>obtain⟨rfl,rfl⟩:=Prod.mk.inj (Option.some.inj h1);obtain rfl:=Option.some.inj h2;exact h.h1
  | 2,h1,h2=>obtain⟨rfl,rfl⟩:=Prod.mk.inj (Option.some.inj h1);obtain rfl:=Option.some.inj h2;exact h.h2
  | 3,h1,h2=>obtain⟨rfl,rfl⟩:=Prod.mk.inj (Option.some.inj h1);obtain rfl:=Option.some.inj h2;exact h.h3
  | 4,h1,h2=>obtain⟨rfl,rfl⟩:=Prod.mk.inj (Option.some.inj h1);obtain rfl:=Option.some.inj h2;exact h.h4
  | 5,h1,h2=>obtain⟨rfl,rfl⟩:=Prod.mk.inj (Option.some.inj h1);obtain rfl:=Option.some.inj h2;exact h.h5
  | n+6,h1,h2=>simp[arK]at h1
theorem Has.of_cl(h:Cl st (arK lv b) (arB lv b r)):Has st lv b r :=
 ⟨h.wr (lv,b) (by simp[arK]),h.get 0 _ _ _ rfl rfl,h.get 1 _ _ _ rfl rfl,h.get 2 _ _ _ rfl rfl,h.get 3 _ _ _ rfl rfl,h.get 4 _ _ _ rfl rfl,h.get 5 _ _ _ rfl rfl⟩
theorem Has.same(h:Has st lv b r):Qh st lv b r=st:=h.cl.same
theorem Has.put(h:Has st lv b r)(r':AR):Has (Qh st lv b r') lv b r':=.of_cl (h.cl.put rfl rfl)
theorem ZlW{r1 r2:AR}:Qh (Qh st lv b r1) lv b r2=Qh st lv b r2:=ZdY (ZSB lv b) rfl rfl
theorem Has.out(h:Has st lv b r)(r':AR){l:Nat}(hn:¬ (l=lv/\b<=i/\i<=b+5)):(Qh st lv b r').get l i=st.get l i:=by
 refine h.cl.out Y Y (fun q=>hn ?_)
 simp only[arK,List.mem_cons,jP,List.not_mem_nil,or_false]at q;omega
theorem ZGU(r':AR):(Qh st lv b r').A.length=st.A.length:=ZZw _ _ _
theorem Has.le(h:Has st lv b r):lv<=st.A.length:=St.get_le h.h5
theorem Has.push(h:Has st lv b r){L:List Blk}(hA:A=st.ps):Has ⟨A,ro,L⟩ lv b r:=.of_cl (h.cl.push hA)
theorem ZBG{L:List Blk}(hA:A=st.ps)(hl:lv<=st.A.length){r':AR}:Qh ⟨A,ro,L⟩ lv b r'=⟨(Qh st lv b r').ps,ro,L⟩:=by
 refine ZdZ hA (fun k hk=>?_)
 simp only[arK,List.mem_cons,List.not_mem_nil,or_false]at hk
 rcases hk with rfl|rfl|rfl|rfl|rfl|rfl<;>exact hl
theorem ZjI(h:Has st lv b r)(s g:Nat)(x:Nd):ZAt st lv b r s g x=Qh st lv b (r.alloc s g x):=by
 have e:∀X Y',ZAt X lv b r s g x=Y'->X=st->ZAt st lv b r s g x=Y':=fun X Y' h1 h2=>by rw[<- h2];exact h1
 refine e (Qh st lv b r) _ ?_ h.same;unfold ZAt Qs Qh;rw[ZBi (j:=3) (ZSB lv b) rfl rfl,ZBi (j:=0) (ZSB lv b) rfl rfl,ZBi (j:=4) (ZSB lv b) rfl rfl,ZBi (j:=5) (ZSB lv b) rfl rfl];rfl
end
theorem QY{k:List Fr}{keep:List Nat}{α:Type}{f:α->AV}{l:List α}{i:Opd}{n:Int}{a:α}(hx:Ze e x=some (.lit (l.map f)))(hi:Ze e i=some (.int .i64 n))(ha:0<=n/\l[n.toNat]?=some a)(hw:∀a,(f a).wide=some w)
 (h:Is O is keep k Q ((d,.lptr (f a) 0)::e) st):Is O (⟨some d,none,false,.ixS w x i⟩::is) keep k Q e st:=by
 have hlt:=(List.getElem?_eq_some_iff.1 ha.2).1
 refine YQ hx hi (by omega) hw (fun b hb=>?_)
 rw[ha.2]at hb;rw[<- Option.some.inj hb];exact h
theorem ZlX{lv b:Nat}{r:AR}(h:Has st lv b r){s:Nat}(hc:CanTake r k s g)(n:Nat)(ks:List Kid)(hx:NdOk ⟨n+1,[],some ks⟩)(hL:ZnK r.nodes n ks):
 S Tb Jm [.ptr lv (b+5) 0 0 0,Nd.av ⟨n+1,[],some ks⟩] st=some (.tup [.int .u64 ((g*65536+s:Nat):Int),.int .i64 0],ZAt st lv b r s g ⟨n+1,[],some ks⟩):=by
 refine ZB1 Y (fun A hA=>?_)
 have hN:=fun st=>ZZz ⟨n+1,[],some ks⟩ hx st
 have hk4:ks.length<=4:=hx.len
 have hn15:n<=15:=by
  rcases hx with hl|⟨m,l,hi⟩
  ·have:=hl.h;simp at this
  ·have h1:=hi.n15
   have h2:=congrArg Nd.h hi.eq
   simp only at h2
   omega
 simp only[Nd.av,slV]at hN ⊢
 have g5:=fun L=>ZQ hA (ro:=false) (L:=L) h.h5
 have g4:=fun L=>ZQ hA (ro:=false) (L:=L) h.h4
 unfold AR.b5 at g5;unfold AR.b4 at g4
 repeat'(first|refine ZE ?_|refine ZD ?_|refine ZF Y ?_|refine ZU Y Y ?_|refine ZV Y Y Y Y ?_|refine ZB Y ?_|refine ZC ?_|refine QL Y ?_|(refine cm0 Y Y Y ?_ ?_<;>intro _<;>try omega)|refine ZG Y ?_|refine JA Y Y Y Y ?_|refine Zn Y Y Y ?_|refine ZA Y Y Y (hN _) ?_|refine ZI ?_|refine ZJ ?_)
 all_goals try omega
 have hle:=St.get_le h.h3
 refine Zt (α:=Nat × List Blk) (fun p=>[(0,.ptr lv (b+5) 0 0 0),(3,.ptr A.length 0 0 0 0),(23,.lit (ks.map Kid.av)),(24,.int .i64 ks.length),(25,.int .i64 p.1)]) (fun p=>⟨A,false,.arr 3 0 [.agg [.int .i64 ((n+1:Nat):Int),.str [],.lit (ks.map Kid.av)]]::p.2⟩) (fun p=>p.1<=ks.length) (fun p=>ks.length-p.1) (0,[]) Y Y (by simp) ?_
 rintro⟨i,G⟩ hi
 simp only at hi ⊢
 rcases Nat.lt_or_ge i ks.length with hlt|hge
 ·obtain⟨kd,hk'⟩:∃k,ks[i]?=some k:=⟨ks[i]'(by omega),by simp[hlt]⟩
  obtain⟨y,y1,y2,y3,y4⟩:=hL kd (jM hk')
  have hlk:=fun L z=>Zda (g4 L) y1 z
  have hMe:=fun st=>ZMJ y y2 st
  have hk1:0<=((i:Nat):Int)/\ks[((i:Nat):Int).toNat]?=some kd:=⟨by omega,by rw[show ((i:Nat):Int).toNat=i by omega];exact hk'⟩
  rw[y4]at hMe;obtain⟨yh,yt,yk⟩:=y
  simp only at y3
  subst y3
  cases yk
  all_goals simp only[Nd.av,slV,Mea.av]at *
  all_goals repeat'(first|refine QY Y Y hk1 (fun _=>rfl) ?_|refine ZE ?_|refine ZD ?_|refine ZF Y ?_|refine ZU Y Y ?_|refine ZV Y Y Y Y ?_|refine QB Y ?_|refine Zl Y Y Y Y ?_|refine Zr Y Y ?_|refine ZB Y ?_|refine ZC ?_|refine Z2 Y Y ?_|refine Ql Y Y Y ?_|refine QF Y Y ?_|(refine cm0 Y Y Y ?_ ?_<;>intro _<;>try omega)|refine ZS Y ?_|refine ZG Y ?_|refine JW Y Y ?_|refine Zj Y Y (by omega) ?_|refine YE Y Y (by omega) ?_|refine Z0 Y Y Y ?_|refine J9 Y Y Y Y Y Y ?_|refine Z5 Y (g5 _) Y Y ?_|refine YZ Y Y (hlk _ _) ?_|refine ZA Y Y Y (hMe _) ?_|refine ZrZ Y Y Y ?_|refine Zra Y Y Y ?_|(refine ZJn Y Y (Zp3 _ _ _ _ _ _) (fun _=>?_) (fun _=>?_))|refine ZI ?_|refine ZP ?_|refine ZJ ?_|refine ZL ?_|refine Zb ?_|refine Zz ?_|refine Qk ?_|refine Z7 ?_|refine ZFK ?_)
  all_goals try omega
  all_goals first|exact⟨(i+1,G++[_]++[_]++[_]),⟨rfl,rfl⟩,by simp only;omega,by simp only;omega⟩|exact absurd ⟨rfl,rfl,rfl⟩ ‹_›
 ·obtain rfl:i=ks.length:=by omega
  have hTk:=fun L=>ZnH (st:=⟨A,false,L⟩) ⟨Xn hA hle h.wr,ZQ hA h.h0,ZQ hA h.h1,ZQ hA h.h2,ZQ hA h.h3,ZQ hA h.h4,ZQ hA h.h5⟩ hc.n hc.blk hc.st hc.s16 hc.gen ⟨hc.g1,hc.g2⟩ hc.big
  repeat'(first|refine ZE ?_|refine ZD ?_|refine ZF Y ?_|refine ZU Y Y ?_|refine ZB Y ?_|refine ZC ?_|refine Z2 Y Y ?_|(refine cm0 Y Y Y ?_ ?_<;>intro _<;>try omega)|refine ZG Y ?_|refine Z5 Y (g5 _) Y Y ?_|refine Zo ?_|refine Zc ?_|refine Za Y ?_|refine Zk ?_)
  all_goals try omega
  refine ZA Y Y Y (hTk _) ?_;rw[Zde hA hle];obtain⟨A1,hA1⟩:∃A1,A1=(Qs st lv b r s).A++[((Qs st lv b r s).ro,(Qs st lv b r s).L)]:=⟨_,rfl⟩;rw[<- hA1]
  have hlen:A.length=A1.length:=by rw[hA,hA1,lL,lL,ZnJ];rfl
  rw[hlen];refine ZF Y ?_;refine Zr Y Y ?_;refine Zr Y Y ?_;refine ZF Y ?_;refine ZF Y ?_;refine ZB Y ?_;refine ZC ?_;refine ZE ?_;refine ZE ?_;refine ZD ?_;refine ZF Y ?_
  refine Zh Y Y (fun q=>absurd Y q) (fun _=>?_)
  refine ZB Y ?_;refine ZC ?_;refine ZG Y ?_;refine ZI ?_;refine ZC ?_
  have:=Zdf h hc ⟨n+1,[],some ks⟩ (.lit (ks.map Kid.av)) rfl A1 G hA1 (fun L=>Zfx ks (by omega) _)
  exact this
structure AROk(r:AR):Prop where
 nb:r.n<=r.blk.length
 n16:r.states.length<=16384
 nn:r.n<=r.states.length
 gl:r.gens.length=r.states.length
 stk:∀i,i<r.n->∃s:Nat,r.blk[i]?=some (s:Int)/\s<r.states.length/\r.states[s]?=some 0
 nd:∀i j,i<r.n->j<r.n->r.blk[i]?=r.blk[j]?->i=j
 gen:∀s,s<r.states.length->∃g:Nat,r.gens[s]?=some (g:Int)/\1<=g/\(g:Int)<=r.most
 most:r.most<=4294967295
 key:∀h x,lk r.nodes h=some x->∃s g:Nat,h=g*65536+s/\s<r.states.length/\r.states[s]?=some 1/\r.gens[s]?=some (g:Int)
 al:0<=r.allocs/\r.allocs+r.n<=r.frees+r.slots
 fr:0<=r.frees/\r.frees<=900000
 sl:r.slots<=16384
def AR.slot(r:AR):Nat:=((r.blk[r.n-1]?).getD 0).toNat
def AR.gen1(r:AR):Nat:=((r.gens[r.slot]?).getD 0).toNat
def AR.next(r:AR):Nat:=r.gen1*65536+r.slot
def AR.add(r:AR)(x:Nd):AR:=r.alloc r.slot r.gen1 x
theorem AROk.top{r:AR}(h:AROk r)(hn:0<r.n):r.blk[r.n-1]?=some (r.slot:Int)/\r.slot<r.states.length/\r.states[r.slot]?=some 0/\r.gens[r.slot]?=some (r.gen1:Int)/\1<=r.gen1/\(r.gen1:Int)<=r.most:=by
 obtain⟨s,h1,h2,h3⟩:=h.stk (r.n-1) (by omega)
 have e1:r.slot=s:=by unfold AR.slot;rw[h1];simp
 obtain⟨g,g1,g2,g3⟩:=h.gen s h2
 have e2:r.gen1=g:=by unfold AR.gen1;rw[e1,g1];simp
 rw[e2,e1];exact⟨h1,h2,h3,g1,g2,g3⟩
theorem AROk.can{r:AR}(h:AROk r)(hn:0<r.n):CanTake r (r.n-1) r.slot r.gen1:=by
 obtain⟨h1,h2,h3,h4,h5,h6⟩:=h.top hn
 have:=h.n16
 have:=h.nn
 have:=h.most
 have:=h.al
 have:=h.fr
 have:=h.sl
 refine⟨by omega,h1,h2,by omega,h4,h5,by omega,by omega,?_,by omega⟩
 cases hk:lk r.nodes (r.gen1*65536+r.slot) with
 | none=>rfl
 | some x =>
  obtain⟨s,g,k1,k2,k3,k4⟩:=h.key _ _ hk
  have:s=r.slot:=by omega
  subst this;rw[h3]at k3
  simp at k3
theorem AROk.add{r:AR}(h:AROk r)(hn:0<r.n)(x:Nd):AROk (r.add x):=by
 obtain⟨h1,h2,h3,h4,h5,h6⟩:=h.top hn;have e1:(r.add x).n=r.n-1:=rfl;have e2:(r.add x).states=r.states.set r.slot 1:=rfl;have e3:(r.add x).nodes=r.nodes++[(r.gen1*65536+r.slot,x.copy)]:=rfl;have e4:(r.add x).blk=r.blk:=rfl;have e5:(r.add x).gens=r.gens:=rfl;have e6:(r.add x).most=r.most:=rfl;have e7:(r.add x).allocs=r.allocs+1:=rfl;have e8:(r.add x).frees=r.frees:=rfl;have e9:(r.add x).slots=r.slots:=rfl
 have hne:∀i,i<r.n-1->r.blk[i]?≠some (r.slot:Int):=fun i hi q=>by
  have:=h.nd i (r.n-1) (by omega) (by omega) (by rw[q,h1])
  omega
 refine⟨by rw[e1,e4];have:=h.nb;omega,by rw[e2,List.length_set];exact h.n16,by rw[e1,e2,List.length_set];have:=h.nn;omega,by rw[e5,e2,List.length_set];exact h.gl,?_,?_,?_,by rw[e6];exact h.most,?_,by rw[e7,e1,e8,e9];have:=h.al;omega,by rw[e8];exact h.fr,by rw[e9];exact h.sl⟩
 ·intro i hi
  rw[e1]at hi
  obtain⟨s,k1,k2,k3⟩:=h.stk i (by omega)
  have:s≠r.slot:=fun q=>hne i hi (by rw[k1,q])
  exact⟨s,k1,by rw[e2,List.length_set];exact k2,by rw[e2,jS (fun q=>this q.symm)];exact k3⟩
 ·intro i j hi hj hij
  rw[e1]at hi hj
  exact h.nd i j (by omega) (by omega) hij
 ·intro s hs
  rw[e2,List.length_set]at hs;exact h.gen s hs
 ·intro a y hy
  rw[e3,ZaE]at hy
  cases hk:lk r.nodes a with
  | some z =>
   obtain⟨s,g,k1,k2,k3,k4⟩:=h.key a z hk
   have:s≠r.slot:=fun q=>by subst q;rw[h3]at k3;simp at k3
   exact⟨s,g,k1,by rw[e2,List.length_set];exact k2,by rw[e2,jS (fun q=>this q.symm)];exact k3,by rw[e5];exact k4⟩
  | none =>
   rw[hk]at hy;simp only[Option.none_or,lk]at hy
   split at hy
   ·rename_i q
    exact⟨r.slot,r.gen1,q.symm,by rw[e2,List.length_set];exact h2,by rw[e2,List.getElem?_set_self h2],by rw[e5];exact h4⟩
   ·simp at hy
theorem AROk.new{r:AR}(h:AROk r)(hn:0<r.n):lk r.nodes r.next=none:=(h.can hn).new
theorem ZJa{r:AR}(h:AROk r)(hn:0<r.n)(x:Nd)(o:Nat):lk (r.add x).nodes o=if o=r.next then some x.copy else lk r.nodes o:=by
 have e3:(r.add x).nodes=r.nodes++[(r.next,x.copy)]:=rfl;rw[e3,ZaE]
 by_cases q:o=r.next
 ·rw[if_pos q,q,h.new hn];simp[lk]
 ·rw[if_neg q]
  cases lk r.nodes o with
  | some y=>rfl
  | none=>simp only[Option.none_or,lk];rw[if_neg (fun w=>q w.symm)]
theorem Zne{lv b:Nat}{r:AR}(h:Has st lv b r)(ho:AROk r)(hn:0<r.n){x:Nd}(hx:NdOk x)(hxk:x.h=0->x.kids=none)(hL:∀k∈x.ks,∃y,lk r.nodes k.at_=some y/\NdOk y/\y.h+1=x.h/\y.mea=k.m):
 S Tb Jm [.ptr lv (b+5) 0 0 0,x.av] st=some (.tup [.int .u64 r.next,.int .i64 0],Qh st lv b (r.add x)):=by
 have hc:=ho.can hn;unfold AR.add AR.next;rw[<- ZjI h]
 rcases hx with hl|⟨n,ks,hi⟩
 ·obtain⟨xh,xt,xk⟩:=x
  have hh:xh=0:=hl.h;subst hh
  have:=hxk rfl
  simp only at this
  subst this;exact ZjH h hc xt ⟨hl.lo,hl.hi⟩
 ·have e:=hi.eq
  subst e
  refine ZlX h hc n ks (.inr ⟨n,ks,hi⟩) (fun k hk=>?_)
  obtain⟨y,y1,y2,y3,y4⟩:=hL k hk
  exact⟨y,y1,y2,by simpa using y3,y4⟩
end Go.Q15
namespace Go.QAbs
variable {v v' vx z:AV}{c:Blk}{agg ro:Bool}{e:Env}{f:FuncId}{A:List (Bool × List Blk)}{es ys:LV}{s:B8}{d g i ix jb jx k n o ob pl px ver w:Nat}{a x:Opd}{O:Orc}{st:St}{Q:YD}
theorem ZBk:∀l:List Blk,YO l=some l
 | []=>rfl
 | b::l=>by rw[YO,ZBk l]
theorem ZSp:∀l:LV,ZY l=some l
 | []=>rfl
 | b::l=>by rw[ZY,ZSp l]
theorem ZlY{k:IntKind}{α:Type}(f:α->Int)(l:List α):Q8 1 (l.map fun a=>AV.int k (f a))=true:=by
 induction l with
 | nil=>rfl
 | cons b s ih=>rw[jC,Q8,List.all_cons];exact Bool.and_eq_true_iff.2 ⟨rfl,ih⟩
theorem ZSC{k:IntKind}{α:Type}(f:α->Int)(n b:Nat)(st:St)(l:List α):mapSt (ZZ (n+1) b) st (l.map fun a=>AV.int k (f a))=some (l.map fun a=>AV.int k (f a),st):=by
 induction l with
 | nil=>rfl
 | cons x s ih =>
  rw[jC,mapSt]
  show ((some (AV.int k (f x),st)).bind fun r=>(mapSt (ZZ (n+1) b) r.2 (s.map fun a=>AV.int k (f a))).bind (XQ r.1))=_
  rw[oS,ih];rfl
section
variable {O:Orc}{k:List Fr}{Q:YD}{e:Env}{A:List (Bool × List Blk)}{L:List Blk}{keep:List Nat}{is:List PI}{d:Nat}
theorem ZBT{bytes:Nat}{s:Opd}(hs:Ze e s=some (.ref A.length ix ver 0 n))(hx:Ze e x=some (.lit ys))(hg:L[ix]?=some (Blk.arr w ver es))(hn:n=es.length)(hw:Q8 w ys=true)
 (hm:mapSt (ZZ QD (A.length+1)) ⟨A,false,L⟩ ys=some (ys,⟨A,false,L⟩)) (hl:es.length+ys.length<4294967296) (hb:bytes<=4096)
 (h:Is O is keep k Q ((d,.ref A.length ix (ver+1) 0 (n+ys.length))::e) ⟨A,false,L.set ix (.arr w (ver+1) (es++ys))⟩):Is O (⟨some d,none,false,.app w bytes s x⟩::is) keep k Q e ⟨A,false,L⟩ :=
 ZeV hs hx hg rfl hn hl hb hw hm (ZBk _) h
theorem Zhk{bytes:Nat}{s:Opd}{vj:Nat}(hs:Ze e s=some (.ref A.length ix ver 0 n))(hx:Ze e x=some (.ref A.length jx vj 0 ys.length))(hj:L[jx]?=some (Blk.arr w vj ys))(hg:L[ix]?=some (Blk.arr w ver es))(hn:n=es.length)(hw:Q8 w ys=true)
 (hm:mapSt (ZZ QD (A.length+1)) ⟨A,false,L⟩ ys=some (ys,⟨A,false,L⟩)) (hl:es.length+ys.length<4294967296) (hb:bytes<=4096)
 (h:Is O is keep k Q ((d,.ref A.length ix (ver+1) 0 (n+ys.length))::e) ⟨A,false,L.set ix (.arr w (ver+1) (es++ys))⟩):Is O (⟨some d,none,false,.app w bytes s x⟩::is) keep k Q e ⟨A,false,L⟩:=by
 refine ZeV (ys:=ys) hs hx hg ?_ hn hl hb hw hm (ZBk _) h;simp only[elems,St.get_cur,hj,vis,ZDb,true_and,Nat.zero_add,Nat.le_refl,if_true,List.drop_zero,List.take_length]
theorem ZqM{t:Opd}(ht:Ze e t=some (.ref A.length ix ver 0 n))(hx:Ze e x=some vx)(hy:elems ⟨A,false,L⟩ vx=some ys)(hg:L[ix]?=some (Blk.arr w ver es))(hn:n=es.length)(hl:ys.length=n)(hw:Q8 w ys=true)
 (hm:mapSt (ZZ QD (A.length+1)) ⟨A,false,L⟩ ys=some (ys,⟨A,false,L⟩))
 (h:Is O is keep k Q ((d,.int .i64 ys.length)::e) ⟨A,false,L.set ix (.arr w ver ys)⟩):Is O (⟨some d,none,false,.cpy w t x⟩::is) keep k Q e ⟨A,false,L⟩:=by
 have hlt:ix<L.length:=(List.getElem?_eq_some_iff.1 hg).1;refine Z4 (v:=.int .i64 ys.length) (st':=⟨A,false,L.set ix (.arr w ver ys)⟩) ?_ h
 have e1:es.take 0++ys++es.drop (0+ys.length)=ys:=by rw[List.drop_of_length_le (by omega)];simp
 simp only[Zi,evalPO,ZH ht,ZH hx,hy,oS,ZiM,hw,if_true,hm,St.get_cur,hg,vis,Zd6,true_and,if_pos (show 0+n<=es.length/\ys.length<=n by omega),e1]
 simp only[St.put,if_true,jB,if_false,if_pos hlt,oS]
theorem ZJ0{lv:Nat}{es:List (AV × AV)}(hx:Ze e x=some (.map lv ix))(hg:st.get lv ix=some (.map es))(h:Is O is keep k Q ((d,.int .i64 es.length)::e) st):Is O (⟨some d,none,false,.len 2 x⟩::is) keep k Q e st:=by
 refine Z4 (v:=.int .i64 es.length) (st':=st) ?_ h;simp only[Zi,evalPO,ZH hx,lenOf,hg,ZWD,oS]
end
end Go.QAbs
namespace Go.Q15
open Go Go.QAbs
variable {v v' vx z:AV}{c:Blk}{agg ro:Bool}{e:Env}{f:FuncId}{A:List (Bool × List Blk)}{es ys:LV}{is:List PI}{s:B8}{d g i ix jb jx k n o ob pl px ver w:Nat}{a x:Opd}{O:Orc}{st:St}{t:Tr}{Q:YD}
theorem Znf(h:Nat)(hh:Yc h)(st:St):S Tb ZBP [.int .u64 h] st=some (.tup [.int .i64 ((h % 65536:Nat):Int),.int .i64 0],st):=by
 refine QK Y (fun A hA=>?_)
 repeat'(first|refine ZE ?_|refine ZD ?_|refine ZF Y ?_|refine Zr Y Y ?_|refine ZB Y ?_|refine ZC ?_|(refine cm0 Y Y Y ?_ ?_<;>intro _<;>try omega)|refine ZG Y ?_|refine ZA Y Y Y (ZR5 h hh _) ?_|refine ZA Y Y Y (ZV4 h (by omega) _) ?_|refine ZI ?_|refine ZP ?_|refine ZL ?_)
 all_goals refine Zf hA (by simp) Y Y Y Y ?_
 all_goals rfl
theorem Zng(h:Nat)(h64:h<18446744073709551616)(hh:¬ Yc h)(st:St):S Tb ZBP [.int .u64 h] st=some (.tup [.int .i64 0,.int .i64 2],st):=by
 refine QK Y (fun A hA=>?_)
 repeat'(first|refine ZE ?_|refine ZD ?_|refine ZF Y ?_|refine ZB Y ?_|refine ZC ?_|(refine cm0 Y Y Y ?_ ?_<;>intro _<;>try omega)|refine ZS Y ?_|refine ZA Y Y Y (ZlG h h64 hh _) ?_|refine ZP ?_|refine ZL ?_|refine Zb ?_)
 all_goals refine Zf hA (by simp) Y Y Y Y ?_
 all_goals rfl
theorem ZqN(h:Nat)(hh:Yc h)(st:St):S Tb ZFS [.int .u64 h] st=some (.tup [.int .u64 ((h / 65536:Nat):Int),.int .i64 0],st):=by
 refine QK Y (fun A hA=>?_)
 repeat'(first|refine ZE ?_|refine ZD ?_|refine ZF Y ?_|refine Zr Y Y ?_|refine ZB Y ?_|refine ZC ?_|(refine cm0 Y Y Y ?_ ?_<;>intro _<;>try omega)|refine ZG Y ?_|refine ZA Y Y Y (ZR5 h hh _) ?_|refine ZA Y Y Y (ZV4 h (by omega) _) ?_|refine ZI ?_|refine ZP ?_|refine ZL ?_)
 all_goals refine Zf hA (by simp) Y Y Y Y ?_
 all_goals rfl
structure HasR(st:St)(lv b:Nat)(r:AR):Prop where
 h0:st.get lv b=some r.b0
 h1:st.get lv (b+1)=some r.b1
 h2:st.get lv (b+2)=some r.b2
 h3:st.get lv (b+3)=some (r.b3 lv b)
 h4:st.get lv (b+4)=some r.b4
 h5:st.get lv (b+5)=some (r.b5 lv b)
theorem Has.r{lv b:Nat}{r:AR}(h:Has st lv b r):HasR st lv b r:=⟨h.h0,h.h1,h.h2,h.h3,h.h4,h.h5⟩
theorem HasR.push{lv b:Nat}{r:AR}{L:List Blk}(hA:A=st.A++[(st.ro,st.L)])(h:HasR st lv b r):HasR ⟨A,ro,L⟩ lv b r :=
 ⟨ZQ hA h.h0,ZQ hA h.h1,ZQ hA h.h2,ZQ hA h.h3,ZQ hA h.h4,ZQ hA h.h5⟩
theorem HasR.allRo{lv b:Nat}{r:AR}(h:HasR st lv b r):HasR st.allRo lv b r :=
 ⟨by rw[Jw];exact h.h0,by rw[Jw];exact h.h1,by rw[Jw];exact h.h2,by rw[Jw];exact h.h3,by rw[Jw];exact h.h4,by rw[Jw];exact h.h5⟩
theorem HasR.rd{lv b:Nat}{r:AR}(h:HasR st lv b r):Rd st lv (b+5) r.nodes:=⟨_,_,_,_,_,_,h.h5,h.h4⟩
theorem Zdl(f:Nat->AV)(v:AV):((List.range n).map f).set i v=(List.range n).map fun j=>if j=i then v else f j:=by
 apply List.ext_getElem
 ·simp
 ·intro j hj hj'
  simp only[List.getElem_set,List.getElem_map,List.getElem_range]
  by_cases q:i=j
  ·subst q;simp
  ·rw[if_neg q,if_neg (fun w=>q w.symm)]
theorem Zdm(f:Nat->AV)(h:k<n):((List.range n).map f)[0+((k:Nat):Int).toNat]?=some (f k):=by
 rw[show 0+((k:Nat):Int).toNat=k by omega]
 simp[h]
def ZBl(l:List Int)(i k:Nat):Int:=if k<i\/l.length<k+i+1 then (l[l.length-1-k]?).getD 0 else (l[k]?).getD 0
theorem Zrd(l:List Int):(List.range l.length).map (fun k=>AV.int .i64 (ZBl l 0 k))=l.map (.int .i64):=by
 apply List.ext_getElem
 ·simp
 ·intro k h1 h2
  simp only[List.length_map,List.length_range]at h1;simp only[List.getElem_map,List.getElem_range,ZBl,Nat.not_lt_zero,false_or]
  rw[if_neg (by omega),jE h1];rfl
theorem Zre(l:List Int)(h:l.length<=2*i+1):(List.range l.length).map (fun k=>AV.int .i64 (ZBl l i k))=l.reverse.map (.int .i64):=by
 apply List.ext_getElem
 ·simp
 ·intro k h1 h2
  simp only[List.length_map,List.length_range]at h1;simp only[List.getElem_map,List.getElem_range,ZBl,List.getElem_reverse]
  split
  ·rw[jE (by omega)];rfl
  ·have:l.length-1-k=k:=by omega
   rw[jE h1];simp only[this,Option.getD_some]
theorem ZlZ(l:List Int)(h:2*i+1<l.length):
 (((List.range l.length).map (fun k=>AV.int .i64 (ZBl l i k))).set i (.int .i64 (ZBl l i (l.length-1-i)))).set (l.length-1-i) (.int .i64 (ZBl l i i))=(List.range l.length).map (fun k=>AV.int .i64 (ZBl l (i+1) k)):=by
 rw[Zdl,Zdl]
 apply List.map_congr_left
 intro k hk;rw[List.mem_range]at hk
 by_cases q:k=l.length-1-i
 ·rw[if_pos q]
  simp only[ZBl]
  rw[if_neg (by omega),if_pos (by omega),q]
  rw[show l.length-1-(l.length-1-i)=i by omega]
 ·rw[if_neg q]
  by_cases q2:k=i
  ·rw[if_pos q2]
   simp only[ZBl]
   rw[if_neg (by omega),if_pos (by omega),q2]
  ·rw[if_neg q2]
   simp only[ZBl]
   by_cases q3:k<i\/l.length<k+i+1
   ·rw[if_pos q3,if_pos (by omega)]
   ·rw[if_neg q3,if_neg (by omega)]
def AR.free(r:AR):List Int:=(r.blk.take r.n).reverse
theorem AR.free_len{r:AR}(h:r.n<=r.blk.length):r.free.length=r.n:=by simp[AR.free];omega
theorem Znh{lv b:Nat}{r:AR}(h:HasR st lv b r)(hn:r.n<=r.blk.length)(hb:r.n<65536):S Tb YH [.ptr lv (b+3) 0 0 0] st=some (.lit (r.free.map (.int .i64)),st):=by
 refine QK Y (fun A hA=>?_)
 have g3:=fun L=>ZQ hA (ro:=false) (L:=L) h.h3
 have g1:=fun L=>ZQ hA (ro:=false) (L:=L) h.h1
 unfold AR.b3 at g3;unfold AR.b1 at g1
 have hl:(r.blk.take r.n).length=r.n:=by simp;omega
 have hel:∀L,elems ⟨A,false,L⟩ (.ref lv (b+1) r.ver 0 r.n)=some ((r.blk.take r.n).map (.int .i64)):=fun L=>by
  simp only[elems,g1,ZDb,true_and,Nat.zero_add,List.length_map,if_pos hn,List.drop_zero,List.map_take]
 unfold AR.free
 generalize hz:r.blk.take r.n=l at *
 repeat'(first|refine ZE ?_|refine ZD ?_|refine ZF Y ?_|refine ZU Y Y ?_|refine ZB Y ?_|refine ZC ?_|refine Z2 Y Y ?_|refine Qf Y ?_|refine ZG Y ?_|refine YE Y Y (by omega) ?_|refine JA Y Y Y Y ?_|refine ZLO Y Y (by omega) (by decide) Y ?_|refine Z5 Y (g3 _) Y Y ?_|refine ZqM (ys:=l.map (.int .i64)) Y Y (hel _) Y (by simp) (by simp[hl]) (ZlY _ _) (ZSC _ _ _ _ _) ?_|refine ZI ?_|refine ZJ ?_)
 refine Zt (α:=Nat) (fun i=>[(3,.ref A.length 0 0 0 r.n),(4,.int .i64 i),(5,.int .i64 ((l.length:Int)-1-i))]) (fun i=>⟨A,false,[.arr 1 0 ((List.range l.length).map fun k=>AV.int .i64 (ZBl l i k))]⟩) (fun i=>2*i<=l.length+1) (fun i=>l.length+1-2*i) 0 ?_ ?_ (by simp) ?_
 ·simp[hl]
 ·rw[Zrd];rfl
 intro i hi;replace hi:2*i<=l.length+1:=hi
 rcases Nat.lt_or_ge (2*i+1) l.length with hlt|hge
 ·have hj:(l.length:Int)-1-i=((l.length-1-i:Nat):Int):=by omega
  have q1:=Zdm (n:=l.length) (k:=i) (fun k=>AV.int .i64 (ZBl l i k)) (by omega)
  have q2:=Zdm (n:=l.length) (k:=l.length-1-i) (fun k=>AV.int .i64 (ZBl l i k)) (by omega)
  have q3:(((List.range l.length).map (fun k=>AV.int .i64 (ZBl l i k))).set (0+((i:Nat):Int).toNat) (.int .i64 (ZBl l i (l.length-1-i))))[0+((l.length-1-i:Nat):Int).toNat]?=some (.int .i64 (ZBl l i (l.length-1-i))):=by
   rw[jS (by omega)];exact q2
  rw[hj]
  repeat'(first|refine ZE ?_|refine ZD ?_|refine ZF Y ?_|refine ZB Y ?_|refine ZC ?_|(refine cm0 Y Y Y ?_ ?_<;>intro _<;>try omega)|refine ZS Y ?_|refine Zj Y Y (by omega) ?_|refine YE Y Y (by omega) ?_|refine ZMr Y Y (by omega) Y ?_|refine ZV Y Y q2 Y ?_|refine ZV Y Y q1 Y ?_|refine JB Y Y Y q1 Y Y ?_|refine JB Y Y Y q3 Y Y ?_|refine ZI ?_|refine ZJ ?_|refine Zz ?_|refine Z7 ?_)
  refine⟨i+1,⟨?_,?_⟩,by omega,by omega⟩
  ·rw[show ((l.length-1-i:Nat):Int)-1=(l.length:Int)-1-((i+1:Nat):Int) by omega];rfl
  ·rw[<- ZlZ l hlt]
   rw[show 0+((i:Nat):Int).toNat=i by omega,show 0+((l.length-1-i:Nat):Int).toNat=l.length-1-i by omega]
   rfl
 ·repeat'(first|refine ZE ?_|refine ZD ?_|refine ZF Y ?_|refine ZB Y ?_|refine ZC ?_|(refine cm0 Y Y Y ?_ ?_<;>intro _<;>try omega)|refine ZG Y ?_|refine ZP ?_|refine Zo ?_|refine ZL ?_|refine Zc ?_|refine Za Y ?_|refine Zk ?_)
  all_goals try omega
  refine ZDt (es:=l.reverse.map (.int .i64)) hA (.inr Y) Y (by rw[Zre l (by omega)];rfl) (by simp;omega) (by intro v hv;obtain⟨x,_,rfl⟩:=List.mem_map.1 hv;rfl) ?_
  rfl
def JV(l:List Int)(s:Int)(n:Nat):List Nat:=(List.range n).filter fun i=>l[i]? == some s
def Js(l:List Int)(s:Int):List Nat:=JV l s l.length
def ZO1(n:Nat):AV:=.int .i64 n
theorem ZCW(l:List Int)(s:Int)(n:Nat):JV l s (n+1)=JV l s n++if l[n]?=some s then [n] else []:=by
 rw[JV,List.range_succ,List.filter_append,<- JV]
 congr 1
 by_cases q:l[n]?=some s
 ·rw[if_pos q];simp[q]
 ·rw[if_neg q];simp[q]
theorem ZJb(l:List Int)(s:Int)(n:Nat):(JV l s n).length<=n:=by
 have:=List.length_filter_le (fun i=>l[i]? == some s) (List.range n)
 rw[List.length_range]at this;exact this
theorem ZkI{lv b:Nat}{r:AR}(h:HasR st lv b r)(hb:r.states.length<=16384)(s:Int):S Tb J6 [.ptr lv (b+3) 0 0 0,.int .u8 s] st=some (.lit ((Js r.states s).map ZO1),st):=by
 refine QK Y (fun A hA=>?_)
 have g3:=fun L=>ZQ hA (ro:=false) (L:=L) h.h3
 have g0:=fun L=>ZQ hA (ro:=false) (L:=L) h.h0
 unfold AR.b3 at g3;unfold AR.b0 at g0
 have hwi:∀L,wIs 1 0 (St.get ⟨A,false,L⟩ lv b)=true:=fun L=>by rw[g0];rfl
 repeat'(first|refine ZE ?_|refine ZD ?_|refine ZF Y ?_|refine ZU Y Y ?_|refine ZB Y ?_|refine ZC ?_|refine Z2 Y Y ?_|refine Qf Y ?_|refine ZG Y ?_|refine JA Y Y Y Y ?_|refine ZBM Y ?_|refine Z5 Y (g3 _) Y Y ?_|refine ZI ?_|refine ZJ ?_)
 refine Zt (α:=Nat) (fun i=>[(1,.int .u8 s),(5,.ref A.length 0 (JV r.states s i).length 0 (JV r.states s i).length),(14,.ref lv b 0 0 r.states.length),(15,.int .i64 r.states.length),(16,.int .i64 i)]) (fun i=>⟨A,false,[.arr 1 (JV r.states s i).length ((JV r.states s i).map ZO1)]⟩) (fun i=>i<=r.states.length) (fun i=>r.states.length-i) 0 Y Y (by simp) ?_
 intro i hi;replace hi:i<=r.states.length:=hi
 rcases Nat.lt_or_ge i r.states.length with hlt|hge
 ·obtain⟨x,hx⟩:∃x,r.states[i]?=some x:=⟨r.states[i]'hlt,by simp[hlt]⟩
  have q1:(r.states.map (.int .u8))[0+((i:Nat):Int).toNat]?=some (AV.int .u8 x):=by
   rw[show 0+((i:Nat):Int).toNat=i by omega,jG,hx];rfl
  have hs:=ZCW r.states s i;have hl:=ZJb r.states s i;rw[hx]at hs
  have hl2:((JV r.states s i).map ZO1).length+[AV.int .i64 (i:Int)].length<4294967296:=by simp;omega
  have hl3:(JV r.states s i).length=((JV r.states s i).map ZO1).length:=by simp
  repeat'(first|refine ZBT Y Y Y hl3 Y Y hl2 (by decide) ?_|refine ZE ?_|refine ZD ?_|refine ZF Y ?_|refine ZB Y ?_|refine ZC ?_|(refine cm0 Y Y Y ?_ ?_<;>intro _<;>try omega)|refine ZS Y ?_|refine ZG Y ?_|refine Zj Y Y (by omega) ?_|refine QX Y Y Y Y ?_|refine YP Y Y (by omega) (hwi _) ?_|refine Z5 Y (g0 _) q1 Y ?_|refine ZI ?_|refine ZJ ?_|refine Zz ?_|refine Z7 ?_)
  ·rename_i e
   subst e;rw[if_pos rfl]at hs
   refine⟨i+1,⟨?_,?_⟩,by omega,by omega⟩
   ·rw[hs,lL];rfl
   ·rw[hs,List.map_append,lL];rfl
  ·rename_i e
   rw[if_neg (by simpa using e),lN]at hs
   exact⟨i+1,⟨by rw[hs];rfl,by rw[hs]⟩,by omega,by omega⟩
 ·obtain rfl:i=r.states.length:=by omega
  repeat'(first|refine ZE ?_|refine ZD ?_|refine ZF Y ?_|refine ZB Y ?_|refine ZC ?_|(refine cm0 Y Y Y ?_ ?_<;>intro _<;>try omega)|refine ZG Y ?_|refine ZP ?_|refine Zo ?_|refine ZL ?_|refine Zc ?_|refine Za Y ?_|refine Zk ?_)
  refine ZDt (es:=(Js r.states s).map ZO1) hA (.inr Y) Y Y (by simp;rfl) (by intro v hv;obtain⟨x,_,rfl⟩:=List.mem_map.1 hv;rfl) ?_
  rfl
theorem ZSq{lv b:Nat}{r:AR}(h:HasR st lv b r)(hb:r.states.length<=16384):S Tb JH [.ptr lv (b+3) 0 0 0] st=some (.lit ((Js r.states 2).map ZO1),st):=by
 refine QK Y (fun A hA=>?_)
 have hs:=fun L=>ZkI (h.push hA (ro:=false) (L:=L)) hb 2
 repeat'(first|refine ZE ?_|refine ZD ?_|refine ZF Y ?_|refine ZB Y ?_|refine ZC ?_|refine ZA Y Y Y (hs _) ?_|refine ZP ?_|refine ZL ?_)
 refine Zf hA (by simp) Y Y Y Y ?_
 rfl
def AR.statsAV(r:AR):AV:=.agg [.int .i64 r.slots,.int .i64 r.n,.int .i64 r.nodes.length,.int .i64 (Js r.states 2).length,.int .i64 r.allocs,.int .i64 r.frees,.int .i64 r.stale]
theorem ZV5{lv b:Nat}{r:AR}(h:HasR st lv b r)(hn:r.n<=r.blk.length)(hb:r.states.length<=16384)(h6:r.n<65536):S Tb Ya [.ptr lv (b+5) 0 0 0] st=some (r.statsAV,st):=by
 refine QK Y (fun A hA=>?_)
 have g5:=fun L=>ZQ hA (ro:=false) (L:=L) h.h5
 have g4:=fun L=>ZQ hA (ro:=false) (L:=L) h.h4
 unfold AR.b5 at g5;unfold AR.b4 at g4
 have hF:=fun L=>Znh (h.push hA (ro:=false) (L:=L)).allRo hn h6
 have hW:=fun L=>ZSq (h.push hA (ro:=false) (L:=L)).allRo hb
 repeat'(first|refine ZE ?_|refine ZD ?_|refine ZF Y ?_|refine ZU Y Y ?_|refine ZB Y ?_|refine ZC ?_|refine Z2 Y Y ?_|refine QL Y ?_|refine ZG Y ?_|refine Zw Y Y Y ?_|refine JA Y Y Y Y ?_|refine Zn Y Y Y ?_|refine Zy Y Y Y Y Y Y ?_|refine Z5 Y (g5 _) Y Y ?_|refine ZJ0 Y (g4 _) ?_|refine XZ Y Y Y (hF _) ?_|refine XZ Y Y Y (hW _) ?_|refine ZI ?_|refine ZP ?_|refine ZL ?_)
 refine Xz hA (by simp) Y Y Y Y Y ?_
 unfold AR.statsAV
 have e2:(r.nodes.map nodeAV).length=r.nodes.length:=List.length_map ..
 rw[<- AR.free_len hn,<- e2]
end Go.Q15
namespace Go.QAbs
variable {v v' vx z:AV}{c:Blk}{agg ro:Bool}{e:Env}{f:FuncId}{A:List (Bool × List Blk)}{es ys:LV}{s:B8}{d g i ix jb jx k n o ob pl px ver w:Nat}{a x:Opd}{O:Orc}{st:St}{Q:YD}
section
variable {O:Orc}{k:List Fr}{Q:YD}{e:Env}{A:List (Bool × List Blk)}{L:List Blk}{keep:List Nat}{is:List PI}{d:Nat}{st:St}
theorem ZqO{od:Option Nat}{op op':PO}(he:Zi O e st op=Zi O e st op')(h:Is O (⟨od,none,false,op'⟩::is) keep k Q e st):Is O (⟨od,none,false,op⟩::is) keep k Q e st:=by
 obtain⟨⟨e',st2,h1,h2⟩⟩:=h;refine⟨⟨e',st2,?_,h2⟩⟩;rw[ZCq]at h1 ⊢
 have e1:Qv O e st ⟨od,none,false,op⟩=Qv O e st ⟨od,none,false,op'⟩:=by simp only[Qv,jB,if_false];exact he
 have e2:wantedV e none=some true:=rfl;simp only[e2,oS,Zc5,e1]at h1 ⊢;exact h1
theorem ZkJ{od:Option Nat}{bytes:Nat}{s b:Opd}{vs vb:AV}(hs:Ze e s=some vs)(hx:Ze e x=some vx)(hb:Ze e b=some vb)(hy:elems st vx=some ys)(ha:ZWG vb vs=true)(hg:ZWF vs (some ys)=true)
 (h:Is O (⟨od,none,false,.app w bytes s x⟩::is) keep k Q e st):Is O (⟨od,none,false,.w (.grow b) (.app w bytes s x)⟩::is) keep k Q e st:=by
 refine ZqO ?_ h;simp only[Zi,QC,Zc4,ZH hs,ZH hx,ZH hb,hy,ha,hg,and_self,if_true]
theorem Zla{b:Opd}{vb ib:Nat}{x:AV}(ha:Ze e a=some (.ptr A.length ix ver i o))(hb:Ze e b=some (.ptr A.length ix vb ib ob))
 (hg:L[ix]?=some (Blk.arr w ver es)) (hx:es[i]?=some x) (hv:JL x agg o n=some v) (h:Is O is keep k Q ((d,v)::e) ⟨A,false,L⟩):Is O (⟨some d,none,false,.w (.only b) (.ld agg n a)⟩::is) keep k Q e ⟨A,false,L⟩:=by
 refine Z4 (v:=v) (st':=⟨A,false,L⟩) ?_ h
 have hgt:(St.hide (fun lv ix=>!ZAy lv ix (b.get e)) ⟨A,false,L⟩).get A.length ix=some (Blk.arr w ver es):=by
  rw[ZAf,St.get_cur,hg,ZH hb]
  simp[ZAy,vis]
 simp only[Zi,QC,PO.reads,if_true,evalPO,ZH ha,loadP,hgt,ZES,hx,hv,oS,Qd,QU]
theorem ZkK{o:Opd}(ho:Ze e o=some v)(hw:v.wide=some w)(h:Is O is keep k Q ((d,.ref A.length L.length 0 0 1)::e) ⟨A,false,L++[Blk.arr w 0 [v]]⟩):Is O (⟨some d,none,false,.bslice true w [z] [(0,o)]⟩::is) keep k Q e ⟨A,false,L⟩:=by
 refine Zmx (qs:=[(0,v)]) (es:=[v]) (es':=[v]) ?_ ?_ (ZSp _) (ZBk _) h
 ·simp only[ZFO,ho]
 ·simp only[fillE,hw,List.length_singleton,true_and,Nat.lt_one_iff,if_true,List.set_cons_zero]
theorem ZkL{o:Opd}(ho:Ze e o=some v)(hw:v.wide=some w)(hi:imm 6 v=true)(h:Is O is keep k Q ((d,.lit [v])::e) st):Is O (⟨some d,none,false,.w .imm (.bslice false w [z] [(0,o)])⟩::is) keep k Q e st:=by
 refine Z4 (od:=some d) (v:=.lit [v]) (st':=st) ?_ h;simp only[Zi,QC,ZiO,Jf,ZH ho,fillE,hw,List.length_singleton,true_and,Nat.lt_one_iff,if_true,List.set_cons_zero,oS,Zah,List.all_cons,List.all_nil,hi,Bool.and_self,List.isEmpty_cons,jB,if_false]
theorem ZMQ(h:Is O is keep k Q ((d,.ptr A.length (L.length+1) 0 0 0)::e) ⟨A,false,L++[Blk.arr w 0 [],Blk.arr 1 0 [.ref A.length L.length 0 0 0]]⟩):Is O (⟨some d,none,false,.boxnil w⟩::is) keep k Q e ⟨A,false,L⟩ :=
 ZEa (by rw[List.append_assoc];exact ZBk _) h
theorem ZGV{bytes:Nat}{s:Opd}(hs:Ze e s=some .nils)(hx:Ze e x=some vx)(hy:elems ⟨A,false,L⟩ vx=some ys)(hl:ys.length<4294967296)(hb:bytes<=4096)(hw:Q8 w ys=true)
 (h:Is O is keep k Q ((d,.ref A.length L.length 0 0 ys.length)::e) ⟨A,false,L++[Blk.arr w 0 ys]⟩):Is O (⟨some d,none,false,.app w bytes s x⟩::is) keep k Q e ⟨A,false,L⟩:=by
 refine Z4 (od:=some d) (v:=.ref A.length L.length 0 0 ys.length) (st':=⟨A,false,L++[Blk.arr w 0 ys]⟩) ?_ h;simp only[Zi,evalPO,ZH hs,ZH hx,hy,oS,JQ,hl,hb,hw,and_self,if_true,St.new_cur,Jp]
end
end Go.QAbs
namespace Go.Q15
open Go Go.QAbs
variable {v v' vx z:AV}{c:Blk}{agg ro:Bool}{e:Env}{f:FuncId}{A:List (Bool × List Blk)}{es ys:LV}{is:List PI}{s:B8}{d g i ix jb jx k n o ob pl px ver w:Nat}{a x:Opd}{O:Orc}{st:St}{t:Tr}{Q:YD}
namespace Tr
mutual
def cnt:Tr->Nat
 | .mk o _ _ _ k=>(if o=0 then 1 else 0)+cntO k
def cntO:Option (List Tr)->Nat
 | none=>0
 | some l=>cntL l
def cntL:List Tr->Nat
 | []=>0
 | t::l=>t.cnt+cntL l
end
theorem cntL_append:∀a b,cntL (a++b)=cntL a+cntL b
 | [],b=>by simp[cntL]
 | t::a,b=>by rw[lC,cntL,cntL,cntL_append a b];omega
theorem cntO_getD(k:Option (List Tr)):cntO k=cntL (k.getD []):=by cases k<;>rfl
end Tr
theorem ZSD{t:Tr}{c:Int}(hk:t.ks=[])(hK:∀st,S Tb Qn [t.av] st=some (.int .i64 c,st))(st:St):S Tb ZBB [t.av] st=some (.int .i64 (if c=3\/c=4 then 1 else 0),st):=by
 obtain⟨o,h,m,s,k⟩:=t
 obtain⟨ka,hka,hka2⟩:∃ka,Tr.avO k=ka/\(ka=.nils\/ka=.lit []):=by
  cases k with
  | none=>exact⟨_,rfl,.inl Y⟩
  | some l=>have:l=[]:=hk;subst this;exact⟨_,rfl,.inr Y⟩
 simp only[Tr.av,hka]at *
 refine QK Y (fun A hA=>?_)
 rcases hka2 with rfl|rfl
 all_goals repeat'(first|refine ZE ?_|refine ZD ?_|refine ZF Y ?_|refine ZU Y Y ?_|refine ZV Y Y Y Y ?_|refine QB Y ?_|refine Q6 Y Y ?_|refine Zl Y Y Y Y ?_|refine ZB Y ?_|refine ZC ?_|refine ZFQ Y Y ?_|refine YF Y ?_|(refine cm0 Y Y Y ?_ ?_<;>intro _<;>try omega)|refine ZS Y ?_|refine ZG Y ?_|refine Zn Y Y Y ?_|refine ZA Y Y Y (hK _) ?_|refine Yd ?_|refine ZI ?_|refine ZP ?_|refine Zo ?_|refine ZJ ?_|refine ZL ?_|refine Zc ?_|refine Za Y ?_)
 all_goals refine Zf hA (by simp) Y Y Y Y ?_
 all_goals simp[*]
theorem ZqP{l:List Tr}{t:Tr}(h:t∈l):t.cnt<=Tr.cntL l:=by
 induction l with
 | nil=>simp at h
 | cons u l ih =>
  rw[Tr.cntL]
  rcases List.mem_cons.1 h with rfl|h
  ·omega
  ·have:=ih h;omega
theorem ZO2(l:List Tr)(i:Nat):Tr.cntL (l.take i)<=Tr.cntL l:=by
 have h:Tr.cntL l=Tr.cntL (l.take i)+Tr.cntL (l.drop i):=by rw[<- Tr.cntL_append,List.take_append_drop]
 omega
theorem Zq6{N:ZO}{t:Tr}(hv:Val N t):t.cnt<4294967296->∀st,S Tb ZBB [t.av] st=some (.int .i64 t.cnt,st):=by
 induction hv with
 | @kept o h m k x h0 hx hok hh hm hk =>
  intro hc st
  have:=ZSD (t:=.mk o h m [] k) hk (fun st=>ZJs (.mk o h m [] k) ⟨h0,rfl,hk⟩ st) st
  rw[this]
  have e:(Tr.mk o h m [] k).cnt=0:=by rw[Tr.cnt,Tr.cntO_getD,hk,if_neg h0];rfl
  rw[e];rfl
 | @leaf s k h1 h2 hk =>
  intro hc st
  have:=ZSD (t:=.mk 0 0 .zero s k) hk (fun st=>ZJt (.mk 0 0 .zero s k) ⟨rfl,rfl,rfl,h1,h2,hk⟩ st) st
  rw[this]
  have e:(Tr.mk 0 0 .zero s k).cnt=1:=by rw[Tr.cnt,Tr.cntO_getD,hk,if_pos rfl];rfl
  rw[e];rfl
 | @inner h l hh h2 h4 hl hb hv ih =>
  intro hc st
  have hK:=fun st=>ZGM (.mk 0 (h+1) .zero [] (some l)) ⟨rfl,rfl,rfl,Nat.succ_le_succ (Nat.zero_le _),hh,h2,h4⟩ st
  have e:(Tr.mk 0 (h+1) .zero [] (some l)).cnt=1+Tr.cntL l:=by rw[Tr.cnt,if_pos rfl];rfl
  rw[e]at hc ⊢;simp only[Tr.av,Tr.avO,Tr.avL_map,Mea.zero]at hK ⊢
  refine QK Y (fun A hA=>?_)
  repeat'(first|refine ZE ?_|refine ZD ?_|refine ZF Y ?_|refine ZU Y Y ?_|refine ZV Y Y Y Y ?_|refine QB Y ?_|refine Zl Y Y Y Y ?_|refine ZB Y ?_|refine ZC ?_|refine QL Y ?_|(refine cm0 Y Y Y ?_ ?_<;>intro _<;>try omega)|refine ZS Y ?_|refine Zn Y Y Y ?_|refine ZA Y Y Y (hK _) ?_|refine ZJ ?_)
  all_goals try contradiction
  refine Zt (α:=Nat × List Blk) (fun p=>[(3,.int .i64 ((1+Tr.cntL (l.take p.1):Nat):Int)),(16,.lit (l.map Tr.av)),(17,.int .i64 l.length),(18,.int .i64 p.1)])
   (fun p=>⟨A,false,.arr 7 0 [.agg [.int .u64 (0:Nat),.int .i64 ((h+1:Nat):Int),.int .i64 0,.int .i64 0,.int .i64 0,.str [],.lit (l.map Tr.av)]]::p.2⟩) (fun p=>p.1<=l.length) (fun p=>l.length-p.1) (0,[]) ?_ rfl (by simp) ?_
  ·simp[Tr.cntL]
  rintro⟨i,G⟩ hi
  simp only at hi ⊢
  have h6:=ZO2 l i;have h7:=ZO2 l (i+1)
  repeat'(first|refine ZE ?_|refine ZD ?_|refine ZF Y ?_|refine ZB Y ?_|refine ZC ?_|(refine cm0 Y Y Y ?_ ?_<;>intro _<;>try omega)|refine ZS Y ?_|refine ZG Y ?_|refine Z0 Y Y Y ?_|refine YQ Y Y (by omega) Z6 (fun _ _=>?_)|refine QF Y (Zp _) ?_|refine Ql Y Y (Zp _) ?_|refine J9 Y Y Y (QQ _ _ _) (Qx _ _) Y ?_|refine ZI ?_|refine ZP ?_|refine Zo ?_|refine ZJ ?_|refine ZL ?_|refine Zc ?_|refine Za Y ?_|refine Zk ?_)
  ·rename_i t ht
   have ht2:l[i]?=some t:=ht;have hm:=jM ht2
   have h5:=ih t hm (by have:=ZqP hm;omega)
   rw[ZW ht2,Tr.cntL_append,Tr.cntL,Tr.cntL]at h7
   repeat'(first|refine ZD ?_|refine ZF Y ?_|refine ZB Y ?_|refine ZC ?_|refine Zj Y Y (by omega) ?_|refine ZA Y Y (by first|rfl|(simp only[lE,lN,lC,Zg,ZX,ZY];first|done|rfl)) (h5 _) ?_|refine Zz ?_|refine Z7 ?_)
   refine⟨(i+1,G++[.arr 7 0 [t.av]]),⟨?_,rfl⟩,by simp only;omega,by simp only;omega⟩
   simp only[ZW ht2,Tr.cntL_append,Tr.cntL]
   rw[show ((1+Tr.cntL (l.take i):Nat):Int)+(t.cnt:Int)=((1+(Tr.cntL (l.take i)+(t.cnt+0)):Nat):Int) by omega]
   rfl
  ·have hi':i=l.length:=by omega
   subst hi';rw[List.take_length]
   refine Zf hA (by simp) Y Y Y Y ?_
   rfl
theorem ZaF(s:B8):QAbs.allBytes (QR s)=some s:=by
 induction s with
 | nil=>rfl
 | cons x s ih =>
  show ((QAbs.byteOf (AV.int .u8 x.toNat)).bind fun b=>(QAbs.allBytes (QR s)).map (b::·))=_
  rw[ih]
  simp[QAbs.byteOf]
theorem ZO3{b lv i1 i2 i3:Nat}(st:St)(h:lv<b):ZZ QD b st (.func (.func f) [] [.ptr lv i1 0 0 0,.ptr lv i2 0 0 0,.ptr lv i3 0 0 0])=some (.func (.func f) [] [.ptr lv i1 0 0 0,.ptr lv i2 0 0 0,.ptr lv i3 0 0 0],st):=by
 simp only[ZZ,QD,ZgJ,if_true,mapSt,oS,if_pos h,XQ]
theorem ZjJ{b0 b1 b2 b3 b4:Blk}{v:Nat}{t:B8}:Q3 ⟨A,false,[b0,b1,b2,b3,b4]⟩ A.length 3 2 v t=⟨A,false,[b0,b1,.arr 1 v (QR t),.arr 1 0 [.ref A.length 2 v 0 t.length],b4]⟩:=by
 simp[Q3,St.upd]
theorem Zrf{N:ZO}(hN:GoodN N){lv:Nat}(hr:Rd st lv ix N)(ht:VE N t)(hb:t.bytes<=65536):S Tb ZIA [.ptr lv ix 0 0 0,t.av] st=some (.tup [.str (t.txt N),.int .i64 0],st):=by
 refine QK Y (fun A hA=>?_)
 have hlv:lv<A.length:=by
  obtain⟨a0,a1,im,a3,a4,a5,h1,h2⟩:=hr
  have:=St.get_le h1
  rw[hA];simp;omega
 have hrp:=fun L=>hr.push hA (ro:=false) (L:=L)
 have hC:=fun L=>ZZ7 (hrp L) ht hb
 rcases ht with he|hv
 ·rw[he.txt]
  have hK:=fun st=>ZDW t he st
  repeat'(first|refine ZE ?_|refine ZD ?_|refine ZF Y ?_|refine ZV Y Y Y Y ?_|refine ZB Y ?_|refine ZC ?_|(refine cm0 Y Y Y ?_ ?_<;>intro _<;>try omega)|(refine cm0 Y Y Y ?_ ?_<;>intro _<;>try omega)|refine ZS Y ?_|refine ZG Y ?_|refine ZAP Y Y ?_|refine Zn Y Y Y ?_|refine ZEa Y ?_|refine Ql Y Y (Zp _) ?_|refine ZV Y Y Y (Zp _) ?_|refine Z0 Y (Z6 _) (QJ _) ?_|refine ZA Y Y (by first|rfl|(simp only[lE,lN,lC,Zg,ZX,ZY];first|done|rfl)) (hC _) ?_|refine ZA Y Y (by first|rfl|(simp only[lE,lN,lC,Zg,ZX,ZY];first|done|rfl)) (hK _) ?_|refine Zy Y Y Y (ZO3 _ (Nat.lt_succ_self _)) Y Y ?_|refine ZI ?_|refine ZP ?_|refine ZL ?_|refine Zb ?_)
  all_goals try omega
  all_goals refine Zf hA (by simp) Y Y Y Y ?_
  all_goals rfl
 ·obtain⟨k,hk1,hK⟩:=hv.kindNe
  repeat'(first|refine ZE ?_|refine ZD ?_|refine ZF Y ?_|refine ZV Y Y Y Y ?_|refine ZB Y ?_|refine ZC ?_|(refine cm0 Y Y Y ?_ ?_<;>intro _<;>try omega)|(refine cm0 Y Y Y ?_ ?_<;>intro _<;>try omega)|refine ZG Y ?_|refine ZAP Y Y ?_|refine Zn Y Y Y ?_|refine ZEa Y ?_|refine Ql Y Y (Zp _) ?_|refine ZV Y Y Y (Zp _) ?_|refine Z0 Y (Z6 _) (QJ _) ?_|refine ZA Y Y (by first|rfl|(simp only[lE,lN,lC,Zg,ZX,ZY];first|done|rfl)) (hC _) ?_|refine ZA Y Y (by first|rfl|(simp only[lE,lN,lC,Zg,ZX,ZY];first|done|rfl)) (hK _) ?_|refine Zy Y Y Y (ZO3 _ (Nat.lt_succ_self _)) Y Y ?_|refine ZI ?_)
  all_goals try omega
  have hwa:∀L,L=[.arr 1 0 [.ptr lv ix 0 0 0],.arr 7 0 [t.av],.arr 1 0 [],.arr 1 0 [.ref A.length 2 0 0 0],.arr 1 0 [.func (.func Y3) [] [.ptr A.length 0 0 0 0,.ptr A.length 3 0 0 0,.ptr A.length 4 0 0 0]]] ->
   Sp Tb Y3 [t.av,.ptr A.length 0 0 0 0,.ptr A.length 3 0 0 0,.ptr A.length 4 0 0 0] ⟨A,false,L⟩ fun v st'=>v=.int .i64 0/\∃ver',st'=Q3 ⟨A,false,L⟩ A.length 3 2 ver' ([]++t.txt N):=by
   rintro L rfl
   refine ZrY hN t.h t hv Y hb (pl:=lv) (px:=ix) (ver:=0) ⟨hrp _,by omega,by rw[St.get_cur];rfl,by rw[St.get_cur];rfl,⟨by decide,by decide⟩,⟨by decide,by decide⟩⟩ ⟨by simp[St.wr],by rw[St.get_cur];rfl,by rw[St.get_cur];rfl,by decide⟩ (by simp;omega)
  refine ZV1 Y Y (wk4 _ _ _ _ Y Y Y) (hwa _ Y) ?_
  rintro v st' ⟨rfl,v2,rfl⟩
  rw[lE,ZjJ]
  repeat'(first|refine ZE ?_|refine ZD ?_|refine ZF Y ?_|refine ZV Y Y Y Y ?_|refine ZB Y ?_|refine ZC ?_|(refine cm0 Y Y Y ?_ ?_<;>intro _<;>try omega)|refine ZG Y ?_|refine ZI ?_)
  refine ZrR Y (v:=.str (t.txt N)) ?_ ?_
  ·have hl:=ZJV (t.txt N)
   show (ZDb v2 0 (t.txt N).length (St.get _ A.length 2)).bind _=_
   rw[St.get_cur]
   show (ZDb v2 0 (t.txt N).length (some (Blk.arr 1 v2 (QR (t.txt N))))).bind _=_
   simp only[ZDb,true_and,hl,Nat.zero_add,Nat.le_refl,if_true,List.drop_zero,oS]
   rw[List.take_of_length_le (by omega),ZaF];rfl
  repeat'(first|refine ZF Y ?_|refine ZB Y ?_|refine ZC ?_|refine ZP ?_|refine ZL ?_)
  refine Zf hA (by simp) Y Y Y Y ?_
  rfl
end Go.Q15
