/- A part of the proof: RFd, RFe, RFf, RFg, RFh, RFi, M42, RFj, M34, M37, M40, M35, M36, M38, M39, M41, RFk, M17, M18, RFl. No condition. -/
import Derived.Test.YtnbialakgbcbfaaGreatPlT8
set_option linter.unusedVariables false
set_option linter.unusedSimpArgs false
set_option maxHeartbeats 16000000
set_option maxRecDepth 100000
namespace Go.Q15
open Go Go.QAbs
variable {u v:AV}{e:Env}{g:FuncId}{A:List (Bool × List Blk)}{es:LV}{L':List Blk}{b i it ix j k n p ver w:Nat}{s:Opd}{st:St}{t x:Tr}
theorem RRd.allRo{lv:Nat}{N:ZF}(h:RRd st lv ix N):RRd st.allRo lv ix N:=by
 obtain⟨l,v,c0,c1,c2,c3,c4,c5,c6,h1,h2⟩:=h;refine⟨l,v,c0,c1,c2,c3,c4,c5,c6,(Qm _ _ _).trans h1,?_⟩
 cases h2 with
 | nil=>exact .nil
 | ref hg hn he=>exact .ref ((Qm _ _ _).trans hg) hn he
theorem ZlY(l:List Tr):(l.map Tr.av).all (imm 6)=true:=List.all_eq_true.2 (ZRC (n:=4) l)
theorem Zrp{L:List Blk}{lv:Nat}{N:ZF}(hr:RRd ⟨A,false,L⟩ lv ix N)(hl:N.length<4294967296)(hv:Val N t)(hge:1<=t.h)(hn:n<=L.length):
 Z4 (S Tb) (.give n) QA [.ptr lv ix 0 0 0,t.av] ⟨A,false,L⟩=some (.ref A.length L.length 0 0 (Zh N t).length,⟨A,false,L++[.arr 7 0 ((Zh N t).map Tr.av)]⟩):=by
 have:=(ZjD (st:=(⟨A,false,L⟩:St).allRo) hr.allRo hl hv hge (A:=((⟨A,false,L⟩:St).allRo.push).A) rfl).give hn (ZlY _)
 rwa [List.length_map]at this
theorem Zfm{L:List Blk}{l:List Tr}(h2:2<=l.length)(hl:l.length<=8)(hh:∀t∈l,t.h<=65536)(hv:Sl ⟨A,false,L⟩ v l):
 Z4 (S Tb) .move Jm [v] ⟨A,false,L⟩=some (.ref A.length L.length 0 0 ((ZA6 l).map Tr.av).length,⟨A,false,L++[.arr 7 0 ((ZA6 l).map Tr.av)]⟩) :=
 (Zph h2 hl hh hv (A:=A++[(false,L)]) rfl).move (ZlY _)
section
variable {O:Orc}{k:List Fr}{Q:Qn}{e:Env}{A:List (Bool × List Blk)}{L:List Blk}{keep:List Nat}{is:List QAbs.PI}{d:Nat}
theorem Zt5{x:Opd}{l:List Tr}(hs:ZY e s=some .nils)(hn:n<=L.length)(hx:ZY e x=some v)(hv:Sl ⟨A,false,L⟩ v l)(hl:l.length<4294967296)(h:Is O is keep k Q ((d,.ref A.length L.length 0 0 l.length)::e) ⟨A,false,L++[.arr 7 0 (l.map Tr.av)]⟩):
 Is O (⟨some d,none,false,.w (.app0n n) (.app 7 80 s x)⟩::is) keep k Q e ⟨A,false,L⟩ :=
 Zt4 hs hn hx hv.elems (by simpa using hl) (by decide) (JB _) (by simpa using h)
theorem ZxW{x i:Opd}{l:List Tr}{n:Int}{u:Tr}(hx:ZY e x=some (.lit (l.map Tr.av)))(hi:ZY e i=some (.int .i64 n))(hn:0<=n/\l[n.toNat]?=some u)(h:Is O is keep k Q ((d,.lptr u.av 0)::e) st):Is O (⟨some d,none,false,.w .blind (.ixS 7 x i)⟩::is) keep k Q e st:=by
 refine ZYt (st':=st) ?_ h;have hlt:=(List.getElem?_eq_some_iff.1 hn.2).1
 have h1:0<=n/\n<((l.map Tr.av).length:Nat):=⟨hn.1,by rw[List.length_map];omega⟩
 have h2:(l.map Tr.av)[n.toNat]?=some u.av:=by rw[jG,hn.2];rfl
 simp only[Zs,PO.reads,if_true,evalPO,ZD hx,ZD hi,ixSV,XB,if_pos h1,h2,ZQ,Option.bind_some,Qe,Z8]
theorem ZxX{a:Opd}{u:Tr}(ha:ZY e a=some (.lptr u.av 0))(h:Is O is keep k Q ((d,u.av)::e) st):Is O (⟨some d,none,false,.w .blind (.ld true 7 a)⟩::is) keep k Q e st:=by
 refine ZYt (st':=st) ?_ h;simp only[Zs,PO.reads,if_true,evalPO,ZD ha,loadP,ZG,Option.bind_some,Qe,Z8]
end
theorem Zt6{L:List Blk}{ws:LV}{l:List Tr}(h:OwnR Tb (A++[(false,L)]) g ws 7 (l.map Tr.av)):Z4 (S Tb) .move g ws ⟨A,false,L⟩=some (.ref A.length L.length 0 0 l.length,⟨A,false,L++[.arr 7 0 (l.map Tr.av)]⟩):=by
 have:=h.move (ZlY _)
 rwa [List.length_map]at this
theorem Zrq(lv ix:Nat)(x y:Tr):ZE (ZH ([]++[AV.ptr lv ix 0 0 0,x.av,y.av]++[]))=some [.ptr lv ix 0 0 0,x.av,y.av]:=wk3 _ _ _ rfl
theorem Zna{N:ZF}(hN:GoodN N)(hl:N.length<4294967296):∀(n:Nat) {st:St} {lv ix:Nat} (hr:RRd st lv ix N) {x y:Tr} (hx:Val N x) (hy:Val N y) (hn:n=x.h+y.h) (hbx:x.bytes<=65536) (hby:y.bytes<=65536) {A:List (Bool × List Blk)} (hA:A=st.A++[(st.ro,st.L)]),
 OwnR Tb A Qi [.ptr lv ix 0 0 0,x.av,y.av] 7 ((QV N n x y).map Tr.av):=by
 intro n
 induction n with
 | zero =>
  intro st lv ix hr x y hx hy hn hbx hby A hA
  have h1:x.h=0:=by omega
  have h2:y.h=0:=by omega
  refine ZcC Y ?_
  have hW1:=fun L=>ZLA hN hl 0 x hx h1 hbx (hr.push hA (ro:=false) (L:=L)).allRo
  have hW2:=fun L=>ZLA hN hl 0 y hy h2 hby (hr.push hA (ro:=false) (L:=L))
  rw[ZAv hx h1]at hW1;rw[ZAv hy h2]at hW2
  have hj:=fun st=>Zpg (QB N x) (QB N y) st (hx.line h1).2 (hy.line h2).2
  have hjl:=Zi6 (QB N x) (QB N y);have lx:=(hx.line h1).1;have ly:=(hy.line h2).1;have gx:=(hx.line h1).2;have gy:=(hy.line h2).2
  have hm:ZCo N x y=if 16<x.bytes+y.bytes/\8<=x.bytes/\8<=y.bytes then [x,y] else (XH (QB N x) (QB N y)).map Qk:=rfl
  rw[QV]
  generalize ZCo N x y=r at *
  generalize XH (QB N x) (QB N y)=j at *
  generalize QB N x=sx at *
  generalize QB N y=sy at *
  unfold ZTR at hj
  have key:∀k Q (B0 B1:Blk),
   Rk (S Tb) k Q .norm [(9,.lit (j.map .str)),(11,.ref A.length 2 j.length 0 j.length),(12,.int .i64 j.length),(59,.bool false)] ⟨A,false,[B0,B1,.arr 7 j.length ((j.map Qk).map Tr.av)]⟩ ->
   Ru (S Tb) p_quartoref15_Merged_11.loop (.blk 0::k) Q [(9,.lit (j.map .str)),(11,.ref A.length 2 0 0 0),(12,.int .i64 0)] ⟨A,false,[B0,B1,.arr 7 0 []]⟩:=by
   rintro k Q B0 B1 hex
   refine Zc (α:=Nat) (fun i=>[(9,.lit (j.map .str)),(11,.ref A.length 2 i 0 i),(12,.int .i64 i)])
    (fun i=>⟨A,false,[B0,B1,.arr 7 i (((j.take i).map Qk).map Tr.av)]⟩) (fun i=>i<=j.length) (fun i=>j.length-i) 0 rfl rfl (by simp) ?_
   rintro i hi
   repeat'(first|refine ruS Y ?_|refine isS Y ?_|refine rkS Y ?_|refine Zi Y ?_|refine Zk Y Y ?_|refine QY Y Y (by omega) (fun _=>rfl) (fun _ _=>?_)|(refine cm0 Y Y Y ?_ ?_<;>intro _<;>try omega))
   ·rename_i u hu
    have hu2:j[i]?=some u:=hu
    have hlen2:((j.take i).map Qk).length=i:=by rw[List.length_map,List.length_take];omega
    refine ZA Y Y Y (ZRF u _) ?_
    repeat'(first|refine Qp ?_|refine isS Y ?_|refine rkS Y ?_|refine ZL Y Y (by omega) ?_|refine Zz Y Y Y Y ?_|refine X5 Y Y Y (by first|rfl|(simp;done)|(simp;omega)) (by first|omega|(simp<;>omega)) (by decide) rfl rfl rfl ?_)
    refine⟨i+1,⟨rfl,?_⟩,by omega,by omega⟩
    simp only[ZU hu2,List.map_append,jC,List.map_nil];rfl
   ·have hi':i=j.length:=by omega
    subst hi';rw[List.take_length];exact hex
  repeat'(first|refine ruS Y ?_|refine isS Y ?_|refine rkS Y ?_|refine Qf Y ?_|(refine cm0 Y Y Y ?_ ?_<;>intro _<;>try omega)|(refine cm0 Y Y Y ?_ ?_<;>intro _<;>try omega)|(refine cm0 Y Y Y ?_ ?_<;>intro _<;>try omega)|refine ZL Y Y (by omega) ?_|refine QN Y ?_|refine Z5 Y Y (ZG _) ?_|refine ZB Y Y Y (ZG _) ?_|refine Za Y (ZQ _) (Zg _) ?_|refine ZB Y Y Y (Qz _) ?_|refine Zw Y Y (ZiD _ _ _) (hW1 _) ?_|refine ZA Y Y (by first|rfl|(simp only[List.nil_append,List.append_nil,List.cons_append,ZH,ZC,ZE];first|done|rfl)) (hW2 _) ?_|refine ZA Y Y (by first|rfl|(simp only[List.nil_append,List.append_nil,List.cons_append,ZH,ZC,ZE];first|done|rfl)) (hj _) ?_|refine ZcD Y Y (ZQ _) (ZQ _) ?_)
  all_goals try omega
  ·rw[hm,if_pos ⟨by omega,by omega,by omega⟩]
   exact⟨_,_,_,YA (.inr Y) Y Y Y Y,rfl⟩
  all_goals refine key _ _ _ _ ?_
  all_goals repeat'(first|refine ruS Y ?_|refine isS Y ?_|refine rkS Y ?_)
  all_goals rw[hm,if_neg (by omega)]
  all_goals exact⟨_,2,j.length,YA (.inr Y) Y Y Y (by simp),rfl⟩
 | succ n ih =>
  intro st lv ix hr x y hx hy hn hbx hby A hA;have hx16:=hx.h16;have hy16:=hy.h16;refine ZcC Y ?_;rw[QV]
  have hrp:=fun L=>hr.push hA (ro:=false) (L:=L)
  rcases Nat.lt_trichotomy x.h y.h with hlt|heq|hgt
  ·rw[if_neg (by omega),if_neg (by omega)]
   obtain⟨c1,c2,c3,c4⟩:=QR hN hy (by omega)
   have hC:=fun L=>ZC3 (hrp L) hl hy (by omega)
   have hbl:=fun u hu=>ZCr (l:=Zh N y) (fun t ht=>(c1 t ht).1.pos.1.nonneg) (u:=u) hu
   generalize Zh N y=l at *
   have hlt':(l.drop 1).length=l.length-1:=by rw[List.length_drop]
   have hlm:(l.map Tr.av).length=l.length:=by simp
   repeat'(first|refine ruS Y ?_|refine isS Y ?_|refine ZX ?_|(refine cm0 Y Y Y ?_ ?_<;>intro _<;>try omega)|refine QY Y Y (by omega) ZQ (fun _ _=>?_)|refine Zk Y (ZG _) ?_|refine Z5 Y Y (ZG _) ?_|refine ZB Y Y Y (ZG _) ?_|refine Za Y (ZQ _) (Zg _) ?_|refine ZB Y Y Y (Qz _) ?_|refine YT Y Y (ZiD _ _ _) (hC _) ?_)
   all_goals try omega
   all_goals
    rename_i u hu
    have hu2:l[0]?=some u:=hu;rw[hu2];obtain⟨u1,u2,u3⟩:=c1 u (jM hu2);have hub:=hbl u (jM hu2)
    have hM:=fun L=>Zt6 (ih (hrp L) hx u1 (show n=x.h+u.h by omega) hbx (by omega) (A:=A++[(false,L)]) rfl)
    have hMo:=Jd hN n x u hx u1 (by omega)
    simp only[Option.getD_some]at hMo ⊢
    generalize QV N n x u=r at *
    have hr2:1<=r.length/\r.length<=2:=by rcases hMo.len with w|w<;>omega
    have hh:∀t∈r++l.drop 1,t.h<=65536:=by
     intro t ht
     rcases List.mem_append.1 ht with q|q
     ·have:=hMo.h t q;omega
     ·have:=(c1 t (List.mem_of_mem_drop q)).2.1;omega
    have hF:=fun {v:AV} {L:List Blk} (hv:Sl ⟨A,false,L⟩ v (r++l.drop 1))=>Zfm (by rw[List.length_append];omega) (by rw[List.length_append];omega) hh hv
    repeat'(first|refine isS Y ?_|refine rkS Y ?_|refine ZVH Y Y (Zrq _ _ _ _) (hM _) ?_|refine ZnL Y (by omega) ?_|refine ZBM Y Y Y Y (.lit _) (by omega) ?_|refine ZVH Y Y Y (hF (Sl.cur Y Y)) ?_|refine Jq ?_)
    all_goals try omega
    all_goals exact⟨_,_,_,YA (.inr Y) Y Y Y Y,List.getElem?_concat_length ..⟩
  ·rw[if_pos heq]
   obtain⟨cx1,cx2,cx3,cx4⟩:=QR hN hx (by omega)
   obtain⟨cy1,cy2,cy3,cy4⟩:=QR hN hy (by omega)
   have hCx:=fun (L:List Blk) (h:2<=L.length)=>Zrp (hrp L) hl hx (by omega) h
   have hCy:=fun L=>ZC3 (hrp L) hl hy (by omega)
   have hhx:∀t∈Zh N x++Zh N y,t.h<=65536:=by
    intro t ht
    rcases List.mem_append.1 ht with q|q
    ·have:=(cx1 t q).2.1;omega
    ·have:=(cy1 t q).2.1;omega
   generalize Zh N x=kx at *
   generalize Zh N y=ky at *
   have hGr:=fun {v:AV} {st:St} (hv:Sl st v (kx++ky))=>Xa (by rw[List.length_append];omega) (by rw[List.length_append];omega) hhx hv
   have hle:(kx++ky).length=kx.length+ky.length:=List.length_append
   repeat'(first|refine ruS Y ?_|refine isS Y ?_|refine rkS Y ?_|refine Zp Y ?_|(refine cm0 Y Y Y ?_ ?_<;>intro _<;>try omega)|(refine cm0 Y Y Y ?_ ?_<;>intro _<;>try omega)|refine ZB Y Y Y (ZG _) ?_|refine Za Y (ZQ _) (Zg _) ?_|refine ZB Y Y Y (Qz _) ?_|refine Zt3 Y Y (ZiD _ _ _) (hCx _ (Nat.le_refl 2)) ?_|refine ZnZ Y (Nat.lt_succ_self 1) Y Y (ZG _) ?_|refine YT Y Y (ZiD _ _ _) (hCy _) ?_|refine ZBM Y Y Y Y (.lit _) (by omega) ?_|refine ZA Y Y (by first|rfl|(simp only[List.nil_append,List.append_nil,List.cons_append,ZH,ZC,ZE];first|done|rfl)) (hGr (Sl.cur rfl rfl)) ?_|refine ZlX Y (ZQ _) ?_|refine ZcD Y Y (ZQ _) (ZQ _) ?_)
   all_goals try omega
   ·rw[if_pos (by omega)]
    exact⟨_,_,_,YA (.inr Y) Y Y Y Y,List.getElem?_concat_length ..⟩
   ·rw[if_neg (by omega)]
    exact⟨_,_,_,YA (.inr Y) Y Y Y Y,List.getElem?_concat_length ..⟩
  ·rw[if_neg (by omega),if_pos hgt]
   obtain⟨c1,c2,c3,c4⟩:=QR hN hx (by omega)
   have hC:=fun L=>ZC3 (hrp L) hl hx (by omega)
   have hbl:=fun u hu=>ZCr (l:=Zh N x) (fun t ht=>(c1 t ht).1.pos.1.nonneg) (u:=u) hu
   generalize Zh N x=l at *
   have hs:=ZK4 (l:=l) (z:=Tr.zero) (by omega)
   have hlt':(l.take (l.length-1)).length=l.length-1:=by rw[List.length_take];omega
   have hSl:∀L,Sl ⟨A,false,L⟩ (.lit ((l.map Tr.av).take (((l.length:Nat):Int)-1).toNat)) (l.take (l.length-1)):=by
    intro L
    rw[show (((l.length:Nat):Int)-1).toNat=l.length-1 by omega,<- List.map_take]
    exact .lit _
   have hlm:(l.map Tr.av).length=l.length:=by simp
   obtain⟨u,hu2⟩:∃u,l[l.length-1]?=some u:=⟨l[l.length-1]'(by omega),jE _⟩
   have qu:0<=((l.length:Nat):Int)-1/\l[(((l.length:Nat):Int)-1).toNat]?=some u:=⟨by omega,by rw[show (((l.length:Nat):Int)-1).toNat=l.length-1 by omega];exact hu2⟩
   rw[hu2];obtain⟨u1,u2,u3⟩:=c1 u (jM hu2);have hub:=hbl u (jM hu2)
   have hM:=fun L=>Zt6 (ih (hrp L) u1 hy (show n=u.h+y.h by omega) (by omega) hby (A:=A++[(false,L)]) rfl)
   have hMo:=Jd hN n u y u1 hy (by omega)
   simp only[Option.getD_some]at hMo ⊢
   generalize QV N n u y=r at *
   have hr2:1<=r.length/\r.length<=2:=by rcases hMo.len with w|w<;>omega
   have hh:∀t∈l.take (l.length-1)++r,t.h<=65536:=by
    intro t ht
    rcases List.mem_append.1 ht with q|q
    ·have:=(c1 t (List.mem_of_mem_take q)).2.1;omega
    ·have:=hMo.h t q;omega
   have hF:=fun {v:AV} {L:List Blk} (hv:Sl ⟨A,false,L⟩ v (l.take (l.length-1)++r))=>Zfm (by rw[List.length_append];omega) (by rw[List.length_append];omega) hh hv
   repeat'(first|refine ruS Y ?_|refine isS Y ?_|refine rkS Y ?_|refine Zi Y ?_|(refine cm0 Y Y Y ?_ ?_<;>intro _<;>try omega)|refine QC Y Y (by omega) ?_|refine ZB Y Y Y (ZG _) ?_|refine Za Y (ZQ _) (Zg _) ?_|refine ZB Y Y Y (Qz _) ?_|refine YT Y Y (ZiD _ _ _) (hC _) ?_|refine XP Y Y (by omega) (JB _) ?_|refine Zt5 Y (Nat.le_refl 2) Y (hSl _) (by omega) ?_|refine ZnZ Y (Nat.lt_succ_self 1) Y Y (ZG _) ?_|refine ZxX Y ?_|refine ZxW Y Y qu ?_|refine ZVH Y Y (Zrq _ _ _ _) (hM _) ?_|refine ZBM Y Y Y Y (Sl.cur Y Y) (by omega) ?_|refine ZVH Y Y Y (hF (Sl.cur Y Y)) ?_|refine ZYt Y ?_)
   all_goals try omega
   all_goals exact⟨_,_,_,YA (.inr Y) Y Y Y Y,List.getElem?_concat_length ..⟩
theorem ZWy(t:Tr)(ht:t.old≠0)(st:St):S Tb Zy [t.av] st=some (.bool false,st):=by
 obtain⟨o,h,m,s,k⟩:=t;simp only[Tr.old]at ht
 refine Zj Y (fun A hA=>?_)
 have ho:((o:Nat):Int)≠0:=by omega
 cases k
 all_goals simp only[Tr.av,Tr.avO,Tr.avL_map]at *
 all_goals repeat'(first|refine ruS Y ?_|refine isS Y ?_|refine ZB Y Y Y Y ?_|refine rkS Y ?_|(refine cm0 Y Y Y ?_ ?_<;>intro _<;>try omega)|refine ZJ Y Y Y ?_)
 all_goals try first|contradiction|omega
 all_goals refine ZO hA (by simp) Y Y Y Y ?_
 all_goals rfl
theorem ZAa{N:ZF}(hv:Val N t)(st:St):S Tb Zy [t.av] st=some (.bool false,st):=by
 rcases hv.kind with h|h|h
 ·exact ZWy t h.old st
 ·exact ZK9 t h st
 ·exact ZGm t h st
theorem Znb{N:ZF}(hN:GoodN N)(hl:N.length<4294967296){lv:Nat}(hr:RRd st lv ix N){y:Tr}(hx:Val N x)(hy:Val N y)(hbx:x.bytes<=65536)(hby:y.bytes<=65536):
 Z4 (S Tb) .inner Qi [.ptr lv ix 0 0 0,x.av,y.av] st=some (.lit ((QV N (x.h+y.h) x y).map Tr.av),st) :=
 (Zna hN hl _ hr hx hy rfl hbx hby rfl).inner (ZRC _)
theorem ZBp{N:ZF}(hN:GoodN N)(hl:N.length<4294967296){lv:Nat}(hr:RRd st lv ix N){y:Tr}(hx:VE N x)(hy:VE N y)(hbx:x.bytes<=65536)(hby:y.bytes<=65536):
 S Tb Qh [.ptr lv ix 0 0 0,x.av,y.av] st=some ((JY N x y).av,st):=by
 refine Zj Y (fun A hA=>?_)
 have hrp:=fun L=>hr.push hA (ro:=false) (L:=L)
 unfold JY
 rcases hx with hx|hx
 ·rw[if_pos hx.bytes]
  have hK:=fun st=>YJ x hx st
  repeat'(first|refine ruS Y ?_|refine Yj Y ?_|refine rkS Y ?_|refine ZJ Y Y Y ?_|refine ZB Y Y Y (ZG _) ?_|refine Ze Y Y Y (Zn _ _ _) (Zx _ _) Y ?_|refine Za Y (ZQ _) (Zg _) ?_|refine ZA Y Y (by first|rfl|(simp only[List.nil_append,List.append_nil,List.cons_append,ZH,ZC,ZE];first|done|rfl)) (hK _) ?_)
  all_goals try first|contradiction|omega
  all_goals exact ZBL hA (.inr Y) Y Y Y
 ·rw[if_neg (by have:=hx.pos.2;omega)]
  have hK:=fun st=>ZAa hx st
  rcases hy with hy|hy
  ·rw[if_pos hy.bytes]
   have hK2:=fun st=>YJ y hy st
   repeat'(first|refine ruS Y ?_|refine Yj Y ?_|refine rkS Y ?_|refine ZJ Y Y Y ?_|refine ZB Y Y Y (ZG _) ?_|refine Ze Y Y Y (Zn _ _ _) (Zx _ _) Y ?_|refine Za Y (ZQ _) (Zg _) ?_|refine ZA Y Y (by first|rfl|(simp only[List.nil_append,List.append_nil,List.cons_append,ZH,ZC,ZE];first|done|rfl)) (hK _) ?_|refine ZA Y Y (by first|rfl|(simp only[List.nil_append,List.append_nil,List.cons_append,ZH,ZC,ZE];first|done|rfl)) (hK2 _) ?_)
   all_goals try first|contradiction|omega
   all_goals exact ZBL hA (.inr Y) Y Y Y
  ·rw[if_neg (by have:=hy.pos.2;omega)]
   have hK2:=fun st=>ZAa hy st
   have hM:=fun L=>Znb hN hl (hrp L) hx hy hbx hby
   have hMo:=Jd hN _ x y hx hy rfl
   generalize QV N (x.h+y.h) x y=r at *
   have hG:=fun st=>ZFE (v:=.lit (r.map Tr.av)) (l:=r) (st:=st) (by rcases hMo.len with w|w<;>omega) (fun t ht=>by have:=hMo.h t ht;have:=hx.h16;have:=hy.h16;omega) (.lit _)
   repeat'(first|refine ruS Y ?_|refine isS Y ?_|refine rkS Y ?_|refine ZJ Y Y Y ?_|refine ZB Y Y Y (ZG _) ?_|refine Ze Y Y Y (Zn _ _ _) (Zx _ _) Y ?_|refine Za Y (ZQ _) (Zg _) ?_|refine ZA Y Y (by first|rfl|(simp only[List.nil_append,List.append_nil,List.cons_append,ZH,ZC,ZE];first|done|rfl)) (hK _) ?_|refine ZA Y Y (by first|rfl|(simp only[List.nil_append,List.append_nil,List.cons_append,ZH,ZC,ZE];first|done|rfl)) (hK2 _) ?_|refine YT Y Y (Zrq _ _ _ _) (hM _) ?_|refine ZA Y Y (by first|rfl|(simp only[List.nil_append,List.append_nil,List.cons_append,ZH,ZC,ZE];first|done|rfl)) (hG _) ?_)
   all_goals try first|contradiction|omega
   all_goals exact ZBL hA (.inr Y) Y Y Y
theorem ZLB{L:List Blk}{x:Ex}{b2 ix2 ver2 w2:Nat}{t2:Tr}(hA:A=st.A++[(st.ro,st.L)])(hx:x=.norm\/x=.ret)(ht:JV e b=some (.ptr A.length ix ver 0 0))(hg:L[ix]?=some (.arr w ver [t.av]))
 (ht2:JV e b2=some (.ptr A.length ix2 ver2 0 0)) (hg2:L[ix2]?=some (.arr w2 ver2 [t2.av])) (hu:.tup [t.av,t2.av]=u):Jp false [.c b true 7,.c b2 true 7] (x,e,⟨A,false,L⟩)=some (u,st):=by
 subst hu;refine ZGP (v:=.tup [t.av,t2.av]) (ro:=false) (L':=L) hA hx ?_ ?_ Y
 ·simp only[Qo,ZC8,ZCz ht hg,ZCz ht2 hg2,Option.bind_some]
  simp only[Option.map_some,ZGq]
 ·show (mapSt (Zb 5 A.length) _ _).bind ZcE=_
  rw[mapSt,XW 3,Option.bind_some,mapSt,XW 3];rfl
theorem ZUs{N:ZF}(hN:GoodN N)(hN32:N.length<4294967296):∀(n:Nat) {st:St} {lv ix:Nat} (hr:RRd st lv ix N) {t:Tr} (ht:VE N t) (hn:t.h=n) (a:Int) (h0:0<=a) (h1:a<=t.bytes) (hb:t.bytes<=65536),
 S Tb Qq [.ptr lv ix 0 0 0,t.av,.int .i64 a] st=some (.tup [(Jg N n t a).1.av,(Jg N n t a).2.av],st):=by
 intro n
 induction n with
 | zero =>
  intro st lv ix hr t ht hn a h0 h1 hb
  refine Zj Y (fun A hA=>?_)
  have hrp:=fun L=>hr.push hA (ro:=false) (L:=L)
  have hB:=fun st=>Q3 ht hb st
  rw[Jg]
  by_cases ha:a=0
  ·rw[if_pos ha]
   repeat'(first|refine ruS Y ?_|refine isS Y ?_|refine rkS Y ?_|(refine cm0 Y Y Y ?_ ?_<;>intro _<;>try omega)|refine ZZ Y Y Y ?_|refine ZJ Y Y Y ?_|refine Ze Y Y Y (Zn _ _ _) (Zx _ _) Y ?_|refine Za Y (ZQ _) (Zg _) ?_|refine ZC1 Y Y Y Y Y (ZG _) ?_|refine ZFC Y Y Y Y Y Y Y ?_)
   all_goals try omega
   exact ZLB (t:=.zero) hA (.inr Y) Y Y Y Y Y
  ·rw[if_neg ha]
   by_cases ha2:a=t.bytes
   ·rw[if_pos ha2]
    repeat'(first|refine ruS Y ?_|refine isS Y ?_|refine rkS Y ?_|(refine cm0 Y Y Y ?_ ?_<;>intro _<;>try omega)|refine ZZ Y Y Y ?_|refine ZJ Y Y Y ?_|refine Ze Y Y Y Y Y Y ?_|refine ZB Y Y Y (ZG _) ?_|refine Ze Y Y Y (Zn _ _ _) (Zx _ _) Y ?_|refine Za Y (ZQ _) (Zg _) ?_|refine ZA Y Y (by first|rfl|(simp only[List.nil_append,List.append_nil,List.cons_append,ZH,ZC,ZE];first|done|rfl)) (hB _) ?_)
    all_goals try omega
    exact ZLB (t2:=.zero) hA (.inr Y) Y Y Y Y Y
   ·rw[if_neg ha2]
    have hv:=ht.val (by omega)
    have hl:=hv.line hn
    have hW:=fun L=>ZLA hN hN32 0 t hv hn hb (hrp L)
    rw[ZAv hv hn]at hW
    generalize QB N t=s at *
    have hL1:=fun st=>ZRF (s.take a.toNat) st
    have hL2:=fun st=>ZRF (s.drop a.toNat) st
    have hsl:=hl.1
    repeat'(first|refine ruS Y ?_|refine isS Y ?_|refine rkS Y ?_|(refine cm0 Y Y Y ?_ ?_<;>intro _<;>try omega)|refine ZBF Y Y (by omega) ?_|refine ZBG Y Y (by omega) ?_|refine ZJ Y Y Y ?_|refine Ze Y Y Y Y Y Y ?_|refine ZB Y Y Y (ZG _) ?_|refine Za Y (ZQ _) (Zg _) ?_|refine ZB Y Y Y (Qz _) ?_|refine ZA Y Y (by first|rfl|(simp only[List.nil_append,List.append_nil,List.cons_append,ZH,ZC,ZE];first|done|rfl)) (hB _) ?_|refine ZA Y Y (by first|rfl|(simp only[List.nil_append,List.append_nil,List.cons_append,ZH,ZC,ZE];first|done|rfl)) (hW _) ?_|refine Zw Y Y Y (hL1 _) ?_|refine ZA Y Y (by first|rfl|(simp only[List.nil_append,List.append_nil,List.cons_append,ZH,ZC,ZE];first|done|rfl)) (hL2 _) ?_)
    all_goals try omega
    exact ZLB (t:=Qk (s.take a.toNat)) (t2:=Qk (s.drop a.toNat)) hA (.inr Y) Y Y Y Y Y
 | succ n ih =>
  intro st lv ix hr t ht hn a h0 h1 hb
  refine Zj Y (fun A hA=>?_)
  have hrp:=fun L=>hr.push hA (ro:=false) (L:=L)
  have hB:=fun st=>Q3 ht hb st
  rw[Jg]
  by_cases ha:a=0
  ·rw[if_pos ha]
   repeat'(first|refine ruS Y ?_|refine isS Y ?_|refine rkS Y ?_|(refine cm0 Y Y Y ?_ ?_<;>intro _<;>try omega)|refine ZZ Y Y Y ?_|refine ZJ Y Y Y ?_|refine Ze Y Y Y (Zn _ _ _) (Zx _ _) Y ?_|refine Za Y (ZQ _) (Zg _) ?_|refine ZC1 Y Y Y Y Y (ZG _) ?_|refine ZFC Y Y Y Y Y Y Y ?_)
   all_goals try omega
   exact ZLB (t:=.zero) hA (.inr Y) Y Y Y Y Y
  ·rw[if_neg ha]
   by_cases ha2:a=t.bytes
   ·rw[if_pos ha2]
    repeat'(first|refine ruS Y ?_|refine isS Y ?_|refine rkS Y ?_|(refine cm0 Y Y Y ?_ ?_<;>intro _<;>try omega)|refine ZZ Y Y Y ?_|refine ZJ Y Y Y ?_|refine Ze Y Y Y Y Y Y ?_|refine ZB Y Y Y (ZG _) ?_|refine Ze Y Y Y (Zn _ _ _) (Zx _ _) Y ?_|refine Za Y (ZQ _) (Zg _) ?_|refine ZA Y Y (by first|rfl|(simp only[List.nil_append,List.append_nil,List.cons_append,ZH,ZC,ZE];first|done|rfl)) (hB _) ?_)
    all_goals try omega
    exact ZLB (t2:=.zero) hA (.inr Y) Y Y Y Y Y
   ·rw[if_neg ha2]
    have vt:=ht.val (by omega)
    have h16:=vt.h16
    obtain⟨c1,c2,c3,c4⟩:=QR hN vt (by omega)
    have hC:=fun L=>ZC3 (hrp L) hN32 vt (by omega)
    generalize Zh N t=l at *
    have hl:∀u∈l,Val N u/\u.h=n/\Big u:=fun u hu=>⟨(c1 u hu).1,by have:=(c1 u hu).2.1;omega,(c1 u hu).2.2⟩
    have hpos:∀u∈l,0<=u.bytes:=fun u hu=>by have:=(hl u hu).1.pos.2;omega
    obtain⟨s1,s2,s3,s4⟩:=ZWr l a (by omega) hpos h0 (by omega)
    have key:∀k Q p6 p7 L,
     (Rk (S Tb) k Q .norm [(0,.ptr lv ix 0 0 0),(2,.int .i64 a),(6,.ptr A.length p6 0 0 0),(7,.ptr A.length p7 0 0 0),(9,.lit (l.map Tr.av)),(10,.int .i64 (QZ l a).1),(11,.int .i64 (a-(QZ l a).2)),(49,.bool false)] ⟨A,false,L⟩) ->
     Ru (S Tb) p_quartoref15_Parts_13.loop (.blk 0::k) Q [(0,.ptr lv ix 0 0 0),(2,.int .i64 a),(6,.ptr A.length p6 0 0 0),(7,.ptr A.length p7 0 0 0),(9,.lit (l.map Tr.av)),(10,.int .i64 0),(11,.int .i64 0)] ⟨A,false,L⟩:=by
     intro k Q p6 p7 L hex
     refine Zc (α:=Nat) (fun i=>[(0,.ptr lv ix 0 0 0),(2,.int .i64 a),(6,.ptr A.length p6 0 0 0),(7,.ptr A.length p7 0 0 0),(9,.lit (l.map Tr.av)),(10,.int .i64 i),(11,.int .i64 (Tr.bytesL (l.take i)))]) (fun p=>⟨A,false,L⟩)
      (fun i=>i<l.length/\Tr.bytesL (l.take i)<=a/\(QZ l a).1=i+(QZ (l.drop i) (a-Tr.bytesL (l.take i))).1/\(QZ l a).2=(QZ (l.drop i) (a-Tr.bytesL (l.take i))).2) (fun i=>l.length-i) 0 (by simp[Tr.bytesL]) rfl ⟨by omega,by simpa [Tr.bytesL] using h0,by simp[Tr.bytesL],by simp[Tr.bytesL]⟩ ?_
     rintro i ⟨i1,i3,i4,i5⟩
     have hu:l[i]?=some l[i]:=by simp[i1]
     generalize l[i]=u at hu;have hum:=jM hu;have hub:=hpos u hum
     have hts:Tr.bytesL (l.take (i+1))=Tr.bytesL (l.take i)+u.bytes:=by rw[ZU hu,Tr.bytesL_append];simp[Tr.bytesL]
     have e2:Tr.bytesL l=Tr.bytesL (l.take i)+(u.bytes+Tr.bytesL (l.drop (i+1))):=by
      conv=>lhs;rw[<- List.take_append_drop (i+1) l,ZU hu,Tr.bytesL_append,Tr.bytesL_append]
      simp[Tr.bytesL];omega
     have hp1:=Tr.bytesL_nonneg (l:=l.take i) (fun w hw=>hpos w (List.mem_of_mem_take hw))
     have hp2:=Tr.bytesL_nonneg (l:=l.drop (i+1)) (fun w hw=>hpos w (List.mem_of_mem_drop hw))
     have hBu:∀w,l[((i:Nat):Int).toNat]?=some w->∀st,S Tb Zl [w.av] st=some (.int .i64 u.bytes,st):=by
      intro w hw st;have hw2:l[i]?=some w:=hw;rw[hu]at hw2
      have:=Option.some.inj hw2
      subst this
      exact ZFF _ u (hl u hum).1 Y (by omega) st
     have hd:l.drop i=u::l.drop (i+1):=by
      rw[List.drop_eq_getElem_cons i1]
      congr 1
      rw[jE i1]at hu;exact Option.some.inj hu
     generalize Tr.bytesL (l.take i)=B0 at *
     repeat'(first|refine ruS Y ?_|refine isS Y ?_|refine rkS Y ?_|(refine cm0 Y Y Y ?_ ?_<;>intro _<;>try omega)|refine ZL Y Y (by omega) ?_|refine QY Y Y (by omega) ZQ (fun _ _=>?_)|refine Zk Y (ZG _) ?_|refine ZA Y Y (by first|rfl|(simp only[List.nil_append,List.append_nil,List.cons_append,ZH,ZC,ZE];first|done|rfl)) (hBu _ (by assumption) _) ?_)
     all_goals try omega
     ·have hne : l.drop (i + 1) ≠ [] := by
       intro q;rw[q]at e2
       simp[Tr.bytesL]at e2
       omega
      have hsk:QZ (l.drop i) (a-B0)=((QZ (l.drop (i+1)) (a-B0-u.bytes)).1+1,(QZ (l.drop (i+1)) (a-B0-u.bytes)).2):=by
       rw[hd]
       cases hq:l.drop (i+1) with
       | nil=>exact absurd hq hne
       | cons v r=>rw[QZ,if_pos (by omega)]
      have hab:a-(B0+u.bytes)=a-B0-u.bytes:=by omega
      refine⟨i+1,⟨by rw[hts];rfl,rfl⟩,⟨?_,by rw[hts];omega,?_,?_⟩,by omega⟩
      ·rcases Nat.lt_or_ge (i+1) l.length with q|q
       ·exact q
       ·exact absurd (List.drop_of_length_le q) hne
      ·rw[hts,hab,i4,hsk];simp only;omega
      ·rw[hts,hab,i5,hsk]
     ·have hsk : QZ (l.drop i) (a - B0) = (0, a - B0) := by
       rw[hd]
       cases hq:l.drop (i+1) with
       | nil=>rfl
       | cons v r=>rw[QZ,if_neg (by omega)]
      have hab:a-(a-B0)=B0:=by omega
      rw[i4,i5,hsk]at hex;simp only[hab,Nat.add_zero]at hex;exact hex
    repeat'(first|refine ruS Y ?_|refine isS Y ?_|refine ZX ?_|(refine cm0 Y Y Y ?_ ?_<;>intro _<;>try omega)|refine ZJ Y Y Y ?_|refine ZB Y Y Y (ZG _) ?_|refine Za Y (ZQ _) (Zg _) ?_|refine ZB Y Y Y (Qz _) ?_|refine ZA Y Y (by first|rfl|(simp only[List.nil_append,List.append_nil,List.cons_append,ZH,ZC,ZE];first|done|rfl)) (hB _) ?_|refine YT Y Y (ZiD _ _ _) (hC _) ?_)
    all_goals try omega
    refine key _ _ _ _ _ ?_;clear key;obtain⟨B,hBd⟩:∃B,B=a-(QZ l a).2:=⟨_,rfl⟩;rw[<- hBd]
    have hb2:(QZ l a).2=a-B:=by omega
    rw[hb2]at s2 s3 s4 ⊢;clear hb2 hBd
    generalize hk:(QZ l a).1=k at *
    have hlm:(l.map Tr.av).length=l.length:=by simp
    have hh1:∀u∈l.take k,u.h<=65536:=fun u hu=>by have:=(hl u (List.mem_of_mem_take hu)).2.1;omega
    have hh2:∀u∈l.drop k,u.h<=65536:=fun u hu=>by have:=(hl u (List.mem_of_mem_drop hu)).2.1;omega
    have hh3:∀u∈l.drop (k+1),u.h<=65536:=fun u hu=>by have:=(hl u (List.mem_of_mem_drop hu)).2.1;omega
    have hG1:∀st,S Tb Z3 [.lit ((l.map Tr.av).take ((k:Nat):Int).toNat)] st=some ((grp (l.take k)).av,st):=fun st=>ZFE (by rw[List.length_take];omega) hh1 (by rw[Int.toNat_natCast,<- List.map_take];exact .lit _)
    have hG2:∀st,S Tb Z3 [.lit ((l.map Tr.av).drop ((k:Nat):Int).toNat)] st=some ((grp (l.drop k)).av,st):=fun st=>ZFE (by rw[List.length_drop];omega) hh2 (by rw[Int.toNat_natCast,<- List.map_drop];exact .lit _)
    have hG3:∀st,S Tb Z3 [.lit ((l.map Tr.av).drop (((k:Nat):Int)+1).toNat)] st=some ((grp (l.drop (k+1))).av,st):=fun st=>ZFE (by rw[List.length_drop];omega) hh3 (by rw[show (((k:Nat):Int)+1).toNat=k+1 by omega,<- List.map_drop];exact .lit _)
    by_cases hz:a-B=0
    ·rw[if_pos hz]
     generalize grp (l.take k)=g1 at *
     generalize grp (l.drop k)=g2 at *
     repeat'(first|refine ruS Y ?_|refine isS Y ?_|refine rkS Y ?_|(refine cm0 Y Y Y ?_ ?_<;>intro _<;>try omega)|refine Ze Y Y Y (Zn _ _ _) (Zx _ _) Y ?_|refine XP Y Y (by omega) (JB _) ?_|refine ZBH Y Y (by omega) (JB _) ?_|refine Zw Y Y Y (hG1 _) ?_|refine ZA Y Y (by first|rfl|(simp only[List.nil_append,List.append_nil,List.cons_append,ZH,ZC,ZE];first|done|rfl)) (hG2 _) ?_)
     all_goals try omega
     exact ZLB hA (.inr Y) Y Y Y Y Y
    ·rw[if_neg hz]
     obtain⟨u,hu⟩:∃u,l[k]?=some u:=⟨l[k],by simp[s1]⟩
     rw[hu];simp only[Option.getD_some];obtain⟨u1,u2,u3⟩:=hl u (jM hu);have hub:=s4 u hu
     have hsum:Tr.bytesL l=Tr.bytesL (l.take k)+(u.bytes+Tr.bytesL (l.drop (k+1))):=by
      conv=>lhs;rw[<- List.take_append_drop (k+1) l,ZU hu,Tr.bytesL_append,Tr.bytesL_append]
      simp[Tr.bytesL];omega
     have p1:=Tr.bytesL_nonneg (l:=l.take k) (fun w hw=>hpos w (List.mem_of_mem_take hw))
     have p2:=Tr.bytesL_nonneg (l:=l.drop (k+1)) (fun w hw=>hpos w (List.mem_of_mem_drop hw))
     have hc:=ZBU hN n u (a-B) (.inr u1) u2 s2 (by omega) (by omega)
     have hcut:∀w,l[((k:Nat):Int).toNat]?=some w->∀L,S Tb Qq [.ptr lv ix 0 0 0,w.av,.int .i64 (a-B)] ⟨A,false,L⟩=some (.tup [(Jg N n u (a-B)).1.av,(Jg N n u (a-B)).2.av],⟨A,false,L⟩):=by
      intro w hw L;have hw2:l[k]?=some w:=hw;rw[hu]at hw2
      have:=Option.some.inj hw2
      subst this
      exact ih (hrp L) (.inr u1) u2 (a-B) s2 (by omega) (by omega)
     have ga:=ZK5 (N:=N) (l:=l.take k) (by rw[List.length_take];omega) (show n+1<=16 by omega) (fun u hu=>hl u (List.mem_of_mem_take hu))
     have gd:=ZK5 (N:=N) (l:=l.drop (k+1)) (by rw[List.length_drop];omega) (show n+1<=16 by omega) (fun u hu=>hl u (List.mem_of_mem_drop hu))
     have a1:=ga.1;have d1:=gd.1;have hcl:=hc.l;have hcr:=hc.r
     have b1:(Jg N n u (a-B)).1.bytes<=65536:=by rw[hc.lb];omega
     have b2:(Jg N n u (a-B)).2.bytes<=65536:=by rw[hc.rb];omega
     have b3:(grp (l.take k)).bytes<=65536:=by rw[ga.2.2.1];omega
     have b4:(grp (l.drop (k+1))).bytes<=65536:=by rw[gd.2.2.1];omega
     have hK1:=fun L=>ZBp hN hN32 (hrp L).allRo a1 hcl b3 b1
     have hK2:=fun L=>ZBp hN hN32 (hrp L) hcr d1 b2 b4
     generalize Jg N n u (a-B)=r at *
     obtain⟨r1,r2⟩:=r
     simp only at *
     generalize grp (l.take k)=g1 at *
     generalize grp (l.drop (k+1))=g3 at *
     generalize JY N g1 r1=z1 at *
     generalize JY N r2 g3=z2 at *
     repeat'(first|refine ruS Y ?_|refine isS Y ?_|refine rkS Y ?_|(refine cm0 Y Y Y ?_ ?_<;>intro _<;>try omega)|refine ZL Y Y (by omega) ?_|refine QC Y Y (by omega) ?_|refine ZJ Y Y Y ?_|refine QY Y Y (by omega) ZQ (fun _ _=>?_)|refine Zk Y (ZG _) ?_|refine ZB Y Y Y (ZG _) ?_|refine Ze Y Y Y (Zn _ _ _) (Zx _ _) Y ?_|refine XP Y Y (by omega) (JB _) ?_|refine ZBH Y Y (by omega) (JB _) ?_|refine Zw Y Y Y (hG1 _) ?_|refine Zw Y Y Y (hG3 _) ?_|refine Zw Y Y (Zrq _ _ _ _) (hK1 _) ?_|refine ZA Y Y (by first|rfl|(simp only[List.nil_append,List.append_nil,List.cons_append,ZH,ZC,ZE];first|done|rfl)) (hcut _ (by assumption) _) ?_|refine ZA Y Y (by first|rfl|(simp only[List.nil_append,List.append_nil,List.cons_append,ZH,ZC,ZE];first|done|rfl)) (hK2 _) ?_)
     all_goals try omega
     all_goals exact ZLB hA (.inr Y) Y Y Y Y Y
theorem ZiE{N:ZF}(hN:GoodN N)(hl:N.length<4294967296){lv:Nat}(hr:RRd st lv ix N)(ht:VE N t)(a n:Int)(s:B8)(h0:0<=a)(h1:0<=n)(h2:a+n<=t.bytes)(hb:t.bytes<=65536)(hs:t.bytes-n+s.length<=65536):
 S Tb Yl [.ptr lv ix 0 0 0,t.av,.int .i64 a,.int .i64 n,.str s] st=some ((ZCH N t a n s).av,st):=by
 refine Zj Y (fun A hA=>?_)
 have hrp:=fun L=>hr.push hA (ro:=false) (L:=L)
 by_cases hz:n=0/\s=[]
 ·have he:ZCH N t a n s=t:=by unfold ZCH;rw[if_pos hz]
  rw[he];obtain⟨rfl,rfl⟩:=hz
  repeat'(first|refine ruS Y ?_|refine isS Y ?_|refine rkS Y ?_|(refine cm0 Y Y Y ?_ ?_<;>intro _<;>try omega)|(refine Jr Y Y (fun _=>?_) (fun _=>?_)<;>try contradiction)|refine ZJ Y Y Y ?_|refine ZB Y Y Y (ZG _) ?_|refine Ze Y Y Y (Zn _ _ _) (Zx _ _) Y ?_|refine Za Y (ZQ _) (Zg _) ?_)
  all_goals try first|contradiction|omega
  all_goals exact ZBL hA (.inr Y) Y Y Y
 ·have he:ZCH N t a n s=JY N (JY N (Jg N t.h t a).1 (Xt s)) (Jg N (Jg N t.h t a).2.h (Jg N t.h t a).2 n).2:=by unfold ZCH;rw[if_neg hz]
  rw[he]
  have c1:=ZBU hN t.h t a ht rfl h0 (by omega) hb
  have hP1:=fun L=>ZUs hN hl t.h (hrp L) ht rfl a h0 (by omega) hb
  generalize Jg N t.h t a=q at *
  obtain⟨l,m⟩:=q
  simp only at *
  have hm:=c1.rb;have hlb:=c1.lb
  simp only at hm hlb
  have c2:=ZBU hN m.h m n c1.r rfl h1 (by omega) (by omega)
  have hP2:=fun L=>ZUs hN hl m.h (hrp L) (t:=m) c1.r rfl n h1 (by omega) (by omega)
  generalize Jg N m.h m n=q at *
  obtain⟨d,r⟩:=q
  simp only at *
  have hrb:=c2.rb
  simp only at hrb
  obtain⟨b1,b2,b3⟩:=ZIL hN (s:=s) (by omega)
  have k1:=X1 hN c1.l b1 (by rw[b3];simp only;omega)
  have hBt:=fun st=>ZUq hN s (by omega) st
  have k1b:=k1.bytes;have c1l:=c1.l;have c2r:=c2.r
  simp only at k1b c1l c2r
  have hJ1:=fun L=>ZBp hN hl (hrp L).allRo c1l b1 (by omega) (by omega)
  have hJ2:=fun L=>ZBp hN hl (hrp L) k1.ve c2r (by rw[k1b];omega) (by omega)
  generalize Xt s=bs at *
  simp only at hJ1 hJ2
  generalize JY N l bs=z1 at *
  generalize JY N z1 r=z2 at *
  repeat'(first|refine ruS Y ?_|refine isS Y ?_|refine rkS Y ?_|(refine cm0 Y Y Y ?_ ?_<;>intro _<;>try omega)|(refine Jr Y Y (fun _=>?_) (fun _=>?_)<;>try contradiction)|refine ZJ Y Y Y ?_|refine ZB Y Y Y (ZG _) ?_|refine Ze Y Y Y (Zn _ _ _) (Zx _ _) Y ?_|refine Za Y (ZQ _) (Zg _) ?_|refine ZA Y Y (by first|rfl|(simp only[List.nil_append,List.append_nil,List.cons_append,ZH,ZC,ZE];first|done|rfl)) (hP1 _) ?_|refine ZA Y Y (by first|rfl|(simp only[List.nil_append,List.append_nil,List.cons_append,ZH,ZC,ZE];first|done|rfl)) (hP2 _) ?_|refine Zw Y Y Y (hBt _) ?_|refine Zw Y Y (Zrq _ _ _ _) (hJ1 _) ?_|refine ZA Y Y (by first|rfl|(simp only[List.nil_append,List.append_nil,List.cons_append,ZH,ZC,ZE];first|done|rfl)) (hJ2 _) ?_)
  all_goals try first|contradiction|omega
  all_goals try exact absurd (And.intro (by assumption) (by assumption)) hz
  all_goals exact ZBL hA (.inr Y) Y Y Y
theorem ZlZ(ks:List Kid)(hk:ks.length<=4)(st:St):S Tb JX [.lit (ks.map Kid.av)] st=some (.lit (ks.map Kid.av),st):=by
 refine Zj Y (fun A hA=>?_)
 repeat'(first|refine ruS Y ?_|refine isS Y ?_|refine ZX ?_|refine QN Y ?_)
 refine Zc (α:=Nat) (fun i=>[(0,.lit (ks.map Kid.av)),(3,.ref A.length 0 i 0 i),(4,.int .i64 i)]) (fun i=>⟨A,false,[.arr 4 i ((ks.take i).map Kid.av)]⟩) (fun i=>i<=ks.length) (fun i=>ks.length-i) 0 Y Y (by simp) ?_
 intro i hi
 have hlen:((ks.take i).map Kid.av).length=i:=by rw[List.length_map,List.length_take];omega
 rcases Nat.lt_or_ge i ks.length with hlt|hge
 ·obtain⟨k,hk2⟩:∃k,ks[i]?=some k:=⟨ks[i]'(by omega),by simp[show i<ks.length by omega]⟩
  have q:0<=((i:Nat):Int)/\ks[((i:Nat):Int).toNat]?=some k:=⟨by omega,by rw[show ((i:Nat):Int).toNat=i by omega];exact hk2⟩
  repeat'(first|refine Z6 (f:=Kid.av) Y Y q (fun _=>rfl) ?_|refine ruS Y ?_|refine isS Y ?_|refine rkS Y ?_|refine Zi Y ?_|refine Zk Y Y ?_|(refine cm0 Y Y Y ?_ ?_<;>intro _<;>try omega)|refine ZL Y Y (by omega) ?_|refine Zz Y Y Y Y ?_|refine X5 Y Y Y (by first|rfl|(simp;done)|(simp;omega)) (by first|omega|(simp<;>omega)) (by decide) rfl rfl rfl ?_)
  all_goals try omega
  refine⟨i+1,⟨rfl,?_⟩,by omega,by omega⟩
  rw[ZU hk2,List.map_append];rfl
 ·obtain rfl:i=ks.length:=by omega
  rw[List.take_length]
  repeat'(first|refine ruS Y ?_|refine isS Y ?_|refine rkS Y ?_|refine Zi Y ?_|(refine cm0 Y Y Y ?_ ?_<;>intro _<;>try omega))
  all_goals try omega
  refine Qu hA (.inr Y) Y Y (by simp) (ZnW _) ?_
  rfl
theorem Zla(x:Nd)(hk:x.ks.length<=4)(st:St):S Tb QT [.agg [.int .i64 x.h,.str x.text,.lit (x.ks.map Kid.av)]] st=some (x.lit.av,st):=by
 refine Zj Y (fun A hA=>?_)
 have hC:=fun st=>ZlZ x.ks hk st
 repeat'(first|refine ruS Y ?_|refine isS Y ?_|refine ZB Y Y Y Y ?_|refine rkS Y ?_|refine ZZ Y Y Y ?_|refine ZJ Y Y Y ?_|refine Ze Y Y Y Y Y Y ?_|refine Zw Y Y Y (hC _) ?_)
 refine JL hA (by simp) Y Y Y Y Y ?_
 rfl
theorem Zt7{lv:Nat}{N:ZF}(hr:RRd st lv ix N){h:Nat}{x:Nd}(hx:lk N h=some x)(hk:x.ks.length<=4)(hl:N.length<4294967296):
 S Tb Ya [.ptr lv ix 0 0 0,.int .u64 h] st=some (.tup [x.lit.av,.int .i64 0],st):=by
 obtain⟨j,hj,hm⟩:=Zqe hx;have hr0:=hr;obtain⟨l,v,c0,c1,c2,c3,c4,c5,c6,h1,h2⟩:=hr
 refine Zj Y (fun A hA=>?_)
 have hF:=fun L=>Zt0 (hr0.push hA (ro:=false) (L:=L)) hj hm hl
 have hC:=fun st=>Zla x hk st
 have g1:=fun L=>ZS hA (ro:=false) (L:=L) h1
 have hjl:j<N.length:=(List.getElem?_eq_some_iff.1 hj).1
 cases h2 with
 | nil=>simp at hj
 | @ref lv' ix' ver n N es hg hn he =>
  have g2:=fun L=>ZS hA (ro:=false) (L:=L) hg
  have hwi:∀L,wIs 4 ver (St.get ⟨A,false,L⟩ lv' ix')=true:=fun L=>by rw[g2];simp[wIs]
  have hpe:=ZWw hn he hj;unfold ZAw at hpe;simp only[Nd.lit,Nd.av,slV]at hpe hC ⊢
  repeat'(first|refine ruS Y ?_|refine isS Y ?_|refine rkS Y ?_|(refine cm0 Y Y Y ?_ ?_<;>intro _<;>try omega)|refine QD Y Y Y Y ?_|refine ZJ Y Y Y ?_|refine Ze Y Y Y Y Y Y ?_|refine ZA Y Y Y (hF _) ?_|refine ZA Y Y Y (hC _) ?_|refine Z1 Y (g1 _) Y Y ?_|refine JA Y Y (by omega) (hwi _) ?_|refine Z1 Y (g2 _) hpe Y ?_)
  all_goals try omega
  all_goals refine JL hA (by simp) Y Y Y Y Y ?_
  all_goals rfl
theorem Zwt(b r l:Int):eqV [(0,0),(1,0),(2,0)] 0 (.agg [.int .i64 b,.int .i64 r,.int .i64 l]) (.agg [.int .i64 b,.int .i64 r,.int .i64 l])=some true:=by
 show (if decide (b=b)=true then (if decide (r=r)=true then (if decide (l=l)=true then some true else some false) else some false) else some false)=_
 simp
theorem Zqi{lv:Nat}{N:ZF}(hr:RRd st lv ix N){h:Nat}{x:Nd}(hx:lk N h=some x)(hok:NdOk x)(hl:N.length<4294967296):
 S Tb Xg [.ptr lv ix 0 0 0,.int .u64 h,.int .i64 x.h,x.mea.av] st=some (.int .i64 0,st):=by
 refine Zj Y (fun A hA=>?_)
 have hk4:x.ks.length<=4:=by
  rcases hok with q|⟨n,ks,q⟩
  ·have:=q.ks;rw[this];simp
  ·have e:=q.eq;subst e;exact q.hi
 have hG:=fun L=>Zt7 (hr.push hA (ro:=false) (L:=L)) hx hk4 hl
 have hMe:=fun st=>ZTT x.lit hok.lit st
 rw[Nd.lit_mea]at hMe
 generalize x.mea=m at *
 obtain⟨b,r,l⟩:=m;have hem:=Zwt b r l
 simp only[Nd.lit,Nd.av,slV,Mea.av]at *
 repeat'(first|refine QD Y Y hem Y ?_|refine ruS Y ?_|refine isS Y ?_|refine ZB Y Y Y Y ?_|refine rkS Y ?_|(refine cm0 Y Y Y ?_ ?_<;>intro _<;>try omega)|refine ZJ Y Y Y ?_|refine Ze Y Y Y Y Y Y ?_|refine ZA Y Y Y (hG _) ?_|refine ZA Y Y Y (hMe _) ?_)
 all_goals try contradiction
 all_goals try exact absurd Y ‹_›
 all_goals try omega
 all_goals refine ZO hA (by simp) Y Y Y Y ?_
 all_goals rfl
theorem ZGn{N:ZF}(hv:Val N t)(st:St):S Tb XV [t.av] st=some (.bool true,st):=by
 refine Zj Y (fun A hA=>?_)
 cases hv with
 | kept h0 hx hok hh hm hk =>
  rename_i o h m k x
  have ho:((o:Nat):Int)≠0:=by omega
  cases k with
  | none =>
   simp only[Tr.av,Tr.avO]at *
   repeat'(first|refine ruS Y ?_|refine isS Y ?_|refine ZB Y Y Y Y ?_|refine rkS Y ?_|refine QG Y ?_|(refine cm0 Y Y Y ?_ ?_<;>intro _<;>try omega)|(refine Jr Y Y (fun _=>?_) (fun _=>?_)<;>try contradiction)|refine ZJ Y Y Y ?_)
   all_goals try first|contradiction|omega
   all_goals refine ZO hA (by simp) Y Y Y Y ?_
   all_goals rfl
  | some l =>
   simp only[Option.getD]at hk;subst hk
   simp only[Tr.av,Tr.avO,Tr.avL_map,List.map_nil]at *
   repeat'(first|refine ruS Y ?_|refine isS Y ?_|refine ZB Y Y Y Y ?_|refine rkS Y ?_|refine Qg Y Y ?_|(refine cm0 Y Y Y ?_ ?_<;>intro _<;>try omega)|(refine Jr Y Y (fun _=>?_) (fun _=>?_)<;>try contradiction)|refine ZJ Y Y Y ?_)
   all_goals try first|contradiction|omega
   all_goals refine ZO hA (by simp) Y Y Y Y ?_
   all_goals rfl
 | leaf h1 h2 hk =>
  rename_i s k
  have hL:=fun st=>Zpf s st
  rw[decide_eq_true (show Xn s from ⟨h1,h2⟩)]at hL
  cases k with
  | none =>
   simp only[Tr.av,Tr.avO,Mea.av,Mea.zero]at *
   repeat'(first|refine ruS Y ?_|refine isS Y ?_|refine ZB Y Y Y Y ?_|refine rkS Y ?_|refine QG Y ?_|(refine cm0 Y Y Y ?_ ?_<;>intro _<;>try omega)|refine ZZ Y Y Y ?_|refine QD Y Y Y Y ?_|refine ZJ Y Y Y ?_|refine ZA Y Y Y (hL _) ?_)
   all_goals try first|contradiction|omega
   all_goals refine ZO hA (by simp) Y Y Y Y ?_
   all_goals rfl
  | some l =>
   simp only[Option.getD]at hk;subst hk
   simp only[Tr.av,Tr.avO,Tr.avL_map,List.map_nil,Mea.av,Mea.zero]at *
   repeat'(first|refine ruS Y ?_|refine isS Y ?_|refine ZB Y Y Y Y ?_|refine rkS Y ?_|refine Qg Y Y ?_|(refine cm0 Y Y Y ?_ ?_<;>intro _<;>try omega)|refine ZZ Y Y Y ?_|refine QD Y Y Y Y ?_|refine ZJ Y Y Y ?_|refine ZA Y Y Y (hL _) ?_)
   all_goals try first|contradiction|omega
   all_goals refine ZO hA (by simp) Y Y Y Y ?_
   all_goals rfl
 | inner hh h2 h4 hl hbg hv =>
  rename_i h l
  have hlm:(l.map Tr.av).length=l.length:=by simp
  simp only[Tr.av,Tr.avO,Tr.avL_map,Mea.av,Mea.zero]at *
  repeat'(first|refine ruS Y ?_|refine isS Y ?_|refine ZB Y Y Y Y ?_|refine rkS Y ?_|refine Zi Y ?_|(refine cm0 Y Y Y ?_ ?_<;>intro _<;>try omega)|(refine Jr Y Y (fun _=>?_) (fun _=>?_)<;>try contradiction)|refine ZZ Y Y Y ?_|refine QD Y Y Y Y ?_|refine ZJ Y Y Y ?_)
  all_goals try first|contradiction|omega
  all_goals refine ZO hA (by simp) Y Y Y Y ?_
  all_goals rfl
theorem ZQy{N:ZF}(hl:N.length<4294967296){o h:Nat}{m:Mea}{k:Option (List Tr)}{x:Nd}(h0:o≠0)(hx:lk N o=some x)(hok:NdOk x)(hh':x.h=h)(hm:x.mea=m)(hk':k.getD []=[])(hv:Val N (.mk o h m [] k))(hb:(Tr.mk o h m [] k).bytes<=65536)
 {st:St} {lv ix:Nat} (hr:RRd st lv ix N) (kd:Bool) (hh:Int) (hk:kd=true->hh=h/\(h=0->8<=(Tr.mk o h m [] k).bytes)):S Tb Qj [.ptr lv ix 0 0 0,(Tr.mk o h m [] k).av,.bool kd,.int .i64 hh] st=some (.int .i64 0,st):=by
 refine Zj Y (fun A hA=>?_)
 have hF:=fun st=>ZGn hv st
 have hB:=fun st=>ZFF _ _ hv rfl hb st
 have hI:=fun L=>Zqi (hr.push hA (ro:=false) (L:=L)) hx hok hl
 rw[hh',hm]at hI
 have ho:((o:Nat):Int)≠0:=by omega
 generalize (Tr.mk o h m [] k).bytes=bb at *
 cases kd
 all_goals simp only[jB,false_implies,true_implies]at hk
 all_goals cases k
 all_goals simp only[Tr.av,Tr.avO,Tr.avL_map,Option.getD]at *
 all_goals try subst hk'
 all_goals repeat'(first|refine ruS Y ?_|refine isS Y ?_|refine ZB Y Y Y Y ?_|refine rkS Y ?_|refine Qg Y Y ?_|refine QG Y ?_|(refine cm0 Y Y Y ?_ ?_<;>intro _<;>try omega)|(refine cm0 Y Y Y ?_ ?_<;>intro _<;>try omega)|(refine cm0 Y Y Y ?_ ?_<;>intro _<;>try omega)|refine ZJ Y Y Y ?_|refine ZA Y Y (by first|rfl|(simp only[List.nil_append,List.append_nil,List.cons_append,ZH,ZC,ZE];first|done|rfl)) (hF _) ?_|refine ZA Y Y (by first|rfl|(simp only[List.nil_append,List.append_nil,List.cons_append,ZH,ZC,ZE];first|done|rfl)) (hB _) ?_|refine ZA Y Y (by first|rfl|(simp only[List.nil_append,List.append_nil,List.cons_append,ZH,ZC,ZE];first|done|rfl)) (hI _) ?_|refine Zr ?_)
 all_goals try first|contradiction|omega
 all_goals refine ZO hA (by simp) Y Y Y Y ?_
 all_goals rfl
theorem Zfn{N:ZF}{s:B8}{k:Option (List Tr)}(hk':k.getD []=[])(hv:Val N (.mk 0 0 .zero s k))(hb:(Tr.mk 0 0 .zero s k).bytes<=65536)
 {st:St} {lv ix:Nat} (kd:Bool) (hh:Int) (hk:kd=true->hh=0/\8<=(Tr.mk 0 0 .zero s k).bytes):S Tb Qj [.ptr lv ix 0 0 0,(Tr.mk 0 0 .zero s k).av,.bool kd,.int .i64 hh] st=some (.int .i64 0,st):=by
 refine Zj Y (fun A hA=>?_)
 have hF:=fun st=>ZGn hv st
 have hB:=fun st=>ZFF _ _ hv rfl hb st
 generalize (Tr.mk 0 0 .zero s k).bytes=bb at *
 cases kd
 all_goals simp only[jB,false_implies,true_implies]at hk
 all_goals cases k
 all_goals simp only[Tr.av,Tr.avO,Tr.avL_map,Option.getD]at *
 all_goals try subst hk'
 all_goals repeat'(first|refine ruS Y ?_|refine isS Y ?_|refine ZB Y Y Y Y ?_|refine rkS Y ?_|refine Qg Y Y ?_|refine QG Y ?_|(refine cm0 Y Y Y ?_ ?_<;>intro _<;>try omega)|(refine cm0 Y Y Y ?_ ?_<;>intro _<;>try omega)|(refine cm0 Y Y Y ?_ ?_<;>intro _<;>try omega)|refine ZJ Y Y Y ?_|refine ZA Y Y (by first|rfl|(simp only[List.nil_append,List.append_nil,List.cons_append,ZH,ZC,ZE];first|done|rfl)) (hF _) ?_|refine ZA Y Y (by first|rfl|(simp only[List.nil_append,List.append_nil,List.cons_append,ZH,ZC,ZE];first|done|rfl)) (hB _) ?_|refine Zr ?_)
 all_goals try first|contradiction|omega
 all_goals refine ZO hA (by simp) Y Y Y Y ?_
 all_goals rfl
theorem Znc{N:ZF}(hl:N.length<4294967296):∀(n:Nat) (t:Tr),Val N t->t.h=n->t.bytes<=65536->∀ {st:St} {lv ix:Nat},RRd st lv ix N->∀(kd:Bool) (hh:Int),(kd=true->hh=t.h/\(t.h=0->8<=t.bytes)) ->
 S Tb Qj [.ptr lv ix 0 0 0,t.av,.bool kd,.int .i64 hh] st=some (.int .i64 0,st):=by
 intro n
 induction n with
 | zero =>
  intro t hv hn hb st lv ix hr kd hh hk;have hv0:=hv
  cases hv with
  | kept h0 hx hok hh' hm hk'=>exact ZQy hl h0 hx hok hh' hm hk' hv0 hb hr kd hh hk
  | leaf h1 h2 hk'=>exact Zfn hk' hv0 hb kd hh (fun q=>⟨(hk q).1,(hk q).2 Y⟩)
  | inner hh h2 h4 hl hbg hv=>simp[Tr.h]at hn
 | succ n ih =>
  intro t hv hn hb st lv ix hr kd hh hk;have hv0:=hv
  cases hv with
  | kept h0 hx hok hh' hm hk'=>exact ZQy hl h0 hx hok hh' hm hk' hv0 hb hr kd hh hk
  | leaf h1 h2 hk'=>simp[Tr.h]at hn
  | inner hh16 h2 h4 hlh hbg hv =>
   rename_i h l
   refine Zj Y (fun A hA=>?_)
   have hF:=fun st=>ZGn hv0 st
   have hrp:=fun L=>hr.push hA (ro:=false) (L:=L)
   have e:(Tr.mk 0 (h+1) .zero [] (some l)).bytes=Tr.bytesL l:=by rw[Tr.bytes,Tr.bytesO_getD];simp[Mea.zero]
   rw[e]at hb
   have hnn:∀t∈l,0<=t.bytes:=fun t ht=>(hv t ht).pos.1.nonneg
   simp only[Tr.h]at hn hk
   have hI:∀u,u∈l->∀L,S Tb Qj [.ptr lv ix 0 0 0,u.av,.bool true,.int .i64 (((h+1:Nat):Int)-1)] ⟨A,false,L⟩=some (.int .i64 0,⟨A,false,L⟩):=fun u hu L =>
    ih u (hv u hu) (by have:=hlh u hu;omega) (by have:=ZCr hnn hu;omega) (hrp L) true _ (fun _=>⟨by have:=hlh u hu;omega,fun q=>hbg u hu (by have:=hlh u hu;omega)⟩)
   simp only[Tr.av,Tr.avO,Tr.avL_map]at *
   have key:∀k Q B,
    Rk (S Tb) k Q .norm [(0,.ptr lv ix 0 0 0),(5,.ptr A.length 0 0 0 0),(10,.int .i64 l.length),(53,.bool false)] ⟨A,false,[.arr 7 0 [.agg [.int .u64 (0:Nat),.int .i64 ((h+1:Nat):Int),.int .i64 Mea.zero.b,.int .i64 Mea.zero.r,.int .i64 Mea.zero.l,.str [],.lit (l.map Tr.av)]]]⟩ ->
    B=.arr 7 0 [.agg [.int .u64 (0:Nat),.int .i64 ((h+1:Nat):Int),.int .i64 Mea.zero.b,.int .i64 Mea.zero.r,.int .i64 Mea.zero.l,.str [],.lit (l.map Tr.av)]] ->
    Ru (S Tb) p_quartoref15_faults_15.loop (.blk 0::k) Q [(0,.ptr lv ix 0 0 0),(5,.ptr A.length 0 0 0 0),(10,.int .i64 0)] ⟨A,false,[B]⟩:=by
    rintro k Q B hex rfl
    refine Zc (α:=Nat) (fun i=>[(0,.ptr lv ix 0 0 0),(5,.ptr A.length 0 0 0 0),(10,.int .i64 i)]) (fun i=>⟨A,false,[.arr 7 0 [.agg [.int .u64 (0:Nat),.int .i64 ((h+1:Nat):Int),.int .i64 Mea.zero.b,.int .i64 Mea.zero.r,.int .i64 Mea.zero.l,.str [],.lit (l.map Tr.av)]]]⟩) (fun i=>i<=l.length) (fun i=>l.length-i) 0 Y Y (by omega) ?_
    intro i hi
    rcases Nat.lt_or_ge i l.length with hlt|hge
    ·obtain⟨u,hu⟩:∃u,l[i]?=some u:=⟨l[i]'hlt,jE _⟩
     have q:0<=((i:Nat):Int)/\l[((i:Nat):Int).toNat]?=some u:=⟨by omega,by rw[show ((i:Nat):Int).toNat=i by omega];exact hu⟩
     have hIu:=hI u (jM hu)
     repeat'(first|refine Z6 (f:=Tr.av) Y Y q ZQ ?_|refine ruS Y ?_|refine isS Y ?_|refine ZB Y Y Y Y ?_|refine rkS Y ?_|refine Zi Y ?_|(refine cm0 Y Y Y ?_ ?_<;>intro _<;>try omega)|(refine cm0 Y Y Y ?_ ?_<;>intro _<;>try omega)|refine ZL Y Y (by omega) ?_|refine QC Y Y (by omega) ?_|refine Zk Y (ZG _) ?_|refine ZA Y Y (by first|rfl|(simp only[List.nil_append,List.append_nil,List.cons_append,ZH,ZC,ZE];first|done|rfl)) (hIu _) ?_)
     all_goals try first|contradiction|omega
     all_goals exact⟨i+1,⟨rfl,rfl⟩,by omega,by omega⟩
    ·obtain rfl:i=l.length:=by omega
     repeat'(first|refine ruS Y ?_|refine isS Y ?_|refine ZB Y Y Y Y ?_|refine rkS Y ?_|refine Zi Y ?_|(refine cm0 Y Y Y ?_ ?_<;>intro _<;>try omega))
     all_goals try omega
     all_goals exact hex
   cases kd
   all_goals simp only[jB,false_implies,true_implies]at hk
   all_goals repeat'(first|refine ruS Y ?_|refine isS Y ?_|refine ZB Y Y Y Y ?_|refine ZX ?_|(refine cm0 Y Y Y ?_ ?_<;>intro _<;>try omega)|(refine cm0 Y Y Y ?_ ?_<;>intro _<;>try omega)|refine ZJ Y Y Y ?_|refine ZA Y Y (by first|rfl|(simp only[List.nil_append,List.append_nil,List.cons_append,ZH,ZC,ZE];first|done|rfl)) (hF _) ?_)
   all_goals try first|contradiction|omega
   all_goals refine key _ _ _ ?_ Y
   all_goals repeat'(first|refine ruS Y ?_|refine isS Y ?_|refine rkS Y ?_)
   all_goals refine ZO hA (by simp) Y Y Y Y ?_
   all_goals rfl
theorem ZUt{N:ZF}(hl:N.length<4294967296){lv:Nat}(hr:RRd st lv ix N)(ht:VE N t)(hb:t.bytes<=65536):S Tb Jk [.ptr lv ix 0 0 0,t.av] st=some (.int .i64 0,st):=by
 refine Zj Y (fun A hA=>?_)
 rcases ht with h|h
 ·have hZ:=fun st=>YJ t h st
  repeat'(first|refine ruS Y ?_|refine isS Y ?_|refine rkS Y ?_|refine QD Y Y Y Y ?_|refine Z5 Y Y (ZG _) ?_|refine Za Y (ZQ _) (Zg _) ?_|refine ZA Y Y (by first|rfl|(simp only[List.nil_append,List.append_nil,List.cons_append,ZH,ZC,ZE];first|done|rfl)) (hZ _) ?_)
  all_goals try first|contradiction|omega
  all_goals refine ZO hA (by simp) Y Y Y Y ?_
  all_goals rfl
 ·have hZ:=fun st=>ZAa h st
  have hF:=fun L=>Znc hl _ t h rfl hb (hr.push hA (ro:=false) (L:=L)) false 0 (fun q=>by simp at q)
  have hB:=fun st=>ZFF _ t h rfl hb st
  repeat'(first|refine ruS Y ?_|refine isS Y ?_|refine rkS Y ?_|(refine cm0 Y Y Y ?_ ?_<;>intro _<;>try omega)|(refine cm0 Y Y Y ?_ ?_<;>intro _<;>try omega)|refine QD Y Y Y Y ?_|refine Z5 Y Y (ZG _) ?_|refine Za Y (ZQ _) (Zg _) ?_|refine ZA Y Y (by first|rfl|(simp only[List.nil_append,List.append_nil,List.cons_append,ZH,ZC,ZE];first|done|rfl)) (hZ _) ?_|refine ZA Y Y (by first|rfl|(simp only[List.nil_append,List.append_nil,List.cons_append,ZH,ZC,ZE];first|done|rfl)) (hF _) ?_|refine ZA Y Y (by first|rfl|(simp only[List.nil_append,List.append_nil,List.cons_append,ZH,ZC,ZE];first|done|rfl)) (hB _) ?_)
  all_goals try first|contradiction|omega
  all_goals refine ZO hA (by simp) Y Y Y Y ?_
  all_goals rfl
namespace Tr
mutual
def cnt:Tr->Nat
 | .mk o _ _ _ k=>(if o=0 then 1 else 0)+cntO k
def cntO:Option (List Tr)->Nat
 | none=>0
 | some l=>cntL l
def cntL:List Tr->Nat
 | []=>0
 | t::l=>t.cnt+cntL l
end
theorem cntL_append:∀a b,cntL (a++b)=cntL a+cntL b
 | [],b=>by simp[cntL]
 | t::a,b=>by rw[List.cons_append,cntL,cntL,cntL_append a b];omega
theorem cntO_getD(k:Option (List Tr)):cntO k=cntL (k.getD []):=by cases k<;>rfl
end Tr
theorem ZYz{t:Tr}{c:Int}(hk:t.ks=[])(hK:∀st,S Tb QQ [t.av] st=some (.int .i64 c,st))(st:St):S Tb ZAI [t.av] st=some (.int .i64 (if c=3\/c=4 then 1 else 0),st):=by
 obtain⟨o,h,m,s,k⟩:=t
 obtain⟨ka,hka,hka2⟩:∃ka,Tr.avO k=ka/\(ka=.nils\/ka=.lit []):=by
  cases k with
  | none=>exact⟨_,rfl,.inl Y⟩
  | some l=>have:l=[]:=hk;subst this;exact⟨_,rfl,.inr Y⟩
 simp only[Tr.av,hka]at *
 refine Zj Y (fun A hA=>?_)
 rcases hka2 with rfl|rfl
 all_goals repeat'(first|refine ruS Y ?_|refine isS Y ?_|refine ZB Y Y Y Y ?_|refine rkS Y ?_|refine Qg Y Y ?_|refine QG Y ?_|(refine cm0 Y Y Y ?_ ?_<;>intro _<;>try omega)|refine ZJ Y Y Y ?_|refine ZA Y Y Y (hK _) ?_|refine Zr ?_)
 all_goals refine ZO hA (by simp) Y Y Y Y ?_
 all_goals simp[*]
theorem Zqj{l:List Tr}{t:Tr}(h:t∈l):t.cnt<=Tr.cntL l:=by
 induction l with
 | nil=>simp at h
 | cons u l ih =>
  rw[Tr.cntL]
  rcases List.mem_cons.1 h with rfl|h
  ·omega
  ·have:=ih h;omega
theorem ZCs(l:List Tr)(i:Nat):Tr.cntL (l.take i)<=Tr.cntL l:=by
 have h:Tr.cntL l=Tr.cntL (l.take i)+Tr.cntL (l.drop i):=by rw[<- Tr.cntL_append,List.take_append_drop]
 omega
theorem Zwu{N:ZF}{t:Tr}(hv:Val N t):t.cnt<4294967296->∀st,S Tb ZAI [t.av] st=some (.int .i64 t.cnt,st):=by
 induction hv with
 | @kept o h m k x h0 hx hok hh hm hk =>
  intro hc st
  have:=ZYz (t:=.mk o h m [] k) hk (fun st=>ZQ9 (.mk o h m [] k) ⟨h0,rfl,hk⟩ st) st
  rw[this]
  have e:(Tr.mk o h m [] k).cnt=0:=by rw[Tr.cnt,Tr.cntO_getD,hk,if_neg h0];rfl
  rw[e];rfl
 | @leaf s k h1 h2 hk =>
  intro hc st
  have:=ZYz (t:=.mk 0 0 .zero s k) hk (fun st=>ZRA (.mk 0 0 .zero s k) ⟨rfl,rfl,rfl,h1,h2,hk⟩ st) st
  rw[this]
  have e:(Tr.mk 0 0 .zero s k).cnt=1:=by rw[Tr.cnt,Tr.cntO_getD,hk,if_pos rfl];rfl
  rw[e];rfl
 | @inner h l hh h2 h4 hl hb hv ih =>
  intro hc st
  have hK:=fun st=>ZKy (.mk 0 (h+1) .zero [] (some l)) ⟨rfl,rfl,rfl,Nat.succ_le_succ (Nat.zero_le _),hh,h2,h4⟩ st
  have e:(Tr.mk 0 (h+1) .zero [] (some l)).cnt=1+Tr.cntL l:=by rw[Tr.cnt,if_pos rfl];rfl
  rw[e]at hc ⊢;simp only[Tr.av,Tr.avO,Tr.avL_map,Mea.zero]at hK ⊢
  refine Zj Y (fun A hA=>?_)
  repeat'(first|refine ruS Y ?_|refine isS Y ?_|refine ZB Y Y Y Y ?_|refine ZX ?_|refine Zi Y ?_|(refine cm0 Y Y Y ?_ ?_<;>intro _<;>try omega)|refine ZJ Y Y Y ?_|refine ZA Y Y Y (hK _) ?_)
  all_goals try contradiction
  refine Zc (α:=Nat × List Blk) (fun p=>[(3,.int .i64 ((1+Tr.cntL (l.take p.1):Nat):Int)),(16,.lit (l.map Tr.av)),(17,.int .i64 l.length),(18,.int .i64 p.1)])
   (fun p=>⟨A,false,.arr 7 0 [.agg [.int .u64 (0:Nat),.int .i64 ((h+1:Nat):Int),.int .i64 0,.int .i64 0,.int .i64 0,.str [],.lit (l.map Tr.av)]]::p.2⟩) (fun p=>p.1<=l.length) (fun p=>l.length-p.1) (0,[]) ?_ rfl (by simp) ?_
  ·simp[Tr.cntL]
  rintro⟨i,G⟩ hi
  simp only at hi ⊢
  have h6:=ZCs l i;have h7:=ZCs l (i+1)
  repeat'(first|refine ruS Y ?_|refine isS Y ?_|refine rkS Y ?_|(refine cm0 Y Y Y ?_ ?_<;>intro _<;>try omega)|refine Za Y Y Y ?_|refine QY Y Y (by omega) ZQ (fun _ _=>?_)|refine Zk Y (ZG _) ?_|refine Z5 Y Y (ZG _) ?_|refine J5 Y Y Y (Zn _ _ _) (Zx _ _) Y ?_)
  ·rename_i t ht
   have ht2:l[i]?=some t:=ht;have hm:=jM ht2
   have h5:=ih t hm (by have:=Zqj hm;omega)
   rw[ZU ht2,Tr.cntL_append,Tr.cntL,Tr.cntL]at h7
   repeat'(first|refine Qp ?_|refine isS Y ?_|refine rkS Y ?_|refine ZL Y Y (by omega) ?_|refine ZA Y Y (by first|rfl|(simp only[List.nil_append,List.append_nil,List.cons_append,ZH,ZC,ZE];first|done|rfl)) (h5 _) ?_)
   refine⟨(i+1,G++[.arr 7 0 [t.av]]),⟨?_,rfl⟩,by simp only;omega,by simp only;omega⟩
   simp only[ZU ht2,Tr.cntL_append,Tr.cntL]
   rw[show ((1+Tr.cntL (l.take i):Nat):Int)+(t.cnt:Int)=((1+(Tr.cntL (l.take i)+(t.cnt+0)):Nat):Int) by omega]
   rfl
  ·have hi':i=l.length:=by omega
   subst hi';rw[List.take_length]
   refine ZO hA (by simp) Y Y Y Y ?_
   rfl
theorem Zrr:GoodN []:=fun o x h=>by simp[lk]at h
def exS:B8:=[97,98,99,100,101,102,103,104,105,106,107,108,109,110,111,112,113]
theorem Zt8:Xt exS=.mk 0 1 .zero [] (some [Qk [97,98,99,100,101,102,103,104,105],Qk [106,107,108,109,110,111,112,113]]):=by
 rfl
theorem ZjE(st:St):S Tb YL [] st=some (.bool true,st):=by
 have hB:=fun st=>ZlP Zrr exS (by decide) st
 rw[Zt8]at hB
 have hv:Val [] (.mk 0 1 .zero [] (some [Qk [97,98,99,100,101,102,103,104,105],Qk [106,107,108,109,110,111,112,113]])):=by
  refine .inner (by decide) (by decide) (by decide) ?_ ?_ ?_
  all_goals intro t ht
  all_goals simp only[List.mem_cons,List.not_mem_nil,or_false]at ht
  all_goals rcases ht with rfl|rfl
  ·rfl
  ·rfl
  ·intro _;rw[XZ];decide
  ·intro _;rw[XZ];decide
  ·exact ZIK ⟨by decide,by decide⟩
  ·exact ZIK ⟨by decide,by decide⟩
 have hC:=fun st=>Zwu hv (by decide) st
 rw[show (Tr.mk 0 1 .zero [] (some [Qk [97,98,99,100,101,102,103,104,105],Qk [106,107,108,109,110,111,112,113]])).cnt=3 from rfl]at hC
 simp only[Tr.av,Tr.avO,Tr.avL,Qk,Mea.zero,exS]at hB hC
 refine Zj Y (fun A hA=>?_)
 repeat'(first|refine ruS Y ?_|refine isS Y ?_|refine ZB Y Y Y Y ?_|refine rkS Y ?_|refine Qg Y Y ?_|refine Zk Y Y ?_|refine ZXK Y Y (by first|omega|decide|(simp only[List.length_cons,List.length_nil];omega)) rfl rfl ?_|(refine cm0 Y Y Y ?_ ?_<;>intro _<;>try omega)|(refine Jr Y Y (fun _=>?_) (fun _=>?_)<;>try contradiction)|refine ZJ Y Y Y ?_|refine Ze Y Y Y Y Y Y ?_|refine ZA Y Y Y (hB _) ?_|refine ZA Y Y Y (hC _) ?_)
 refine ZO hA (by simp) Y Y Y Y ?_
 rfl
theorem Zt9{N:ZF}(hv:Val N t):t.cnt<4294967296->∀st,S Tb YB [t.av] st=some (.int .i64 t.cnt,st):=by
 induction hv with
 | @kept o h m k x h0 hx hok hh hm hk =>
  intro hc st
  have hZ:=fun st=>ZWy (.mk o h m [] k) h0 st
  have e:(Tr.mk o h m [] k).cnt=0:=by rw[Tr.cnt,Tr.cntO_getD,hk,if_neg h0];rfl
  rw[e]
  have ho:((o:Nat):Int)≠0:=by omega
  refine Zj Y (fun A hA=>?_)
  cases k
  all_goals simp only[Tr.av,Tr.avO,Tr.avL_map]at *
  all_goals repeat'(first|refine ruS Y ?_|refine isS Y ?_|refine ZB Y Y Y Y ?_|refine rkS Y ?_|(refine cm0 Y Y Y ?_ ?_<;>intro _<;>try omega)|refine ZJ Y Y Y ?_|refine ZA Y Y (by first|rfl|(simp only[List.nil_append,List.append_nil,List.cons_append,ZH,ZC,ZE];first|done|rfl)) (hZ _) ?_)
  all_goals try first|contradiction|omega
  all_goals refine ZO hA (by simp) Y Y Y Y ?_
  all_goals rfl
 | @leaf s k h1 h2 hk =>
  intro hc st
  have hZ:=fun st=>ZK9 (.mk 0 0 .zero s k) ⟨rfl,rfl,rfl,h1,h2,hk⟩ st
  have e:(Tr.mk 0 0 .zero s k).cnt=1:=by rw[Tr.cnt,Tr.cntO_getD,hk,if_pos rfl];rfl
  rw[e]
  refine Zj Y (fun A hA=>?_)
  cases k with
  | none =>
   simp only[Tr.av,Tr.avO,Mea.zero]at *
   repeat'(first|refine ruS Y ?_|refine isS Y ?_|refine ZB Y Y Y Y ?_|refine rkS Y ?_|refine QG Y ?_|(refine cm0 Y Y Y ?_ ?_<;>intro _<;>try omega)|(refine cm0 Y Y Y ?_ ?_<;>intro _<;>try omega)|refine ZJ Y Y Y ?_|refine ZA Y Y (by first|rfl|(simp only[List.nil_append,List.append_nil,List.cons_append,ZH,ZC,ZE];first|done|rfl)) (hZ _) ?_|refine Zr ?_)
   all_goals try first|contradiction|omega
   all_goals refine ZO hA (by simp) Y Y Y Y ?_
   all_goals rfl
  | some l =>
   simp only[Option.getD]at hk;subst hk
   simp only[Tr.av,Tr.avO,Tr.avL_map,List.map_nil,Mea.zero]at *
   repeat'(first|refine ruS Y ?_|refine isS Y ?_|refine ZB Y Y Y Y ?_|refine rkS Y ?_|refine Qg Y Y ?_|(refine cm0 Y Y Y ?_ ?_<;>intro _<;>try omega)|(refine cm0 Y Y Y ?_ ?_<;>intro _<;>try omega)|refine ZJ Y Y Y ?_|refine ZA Y Y (by first|rfl|(simp only[List.nil_append,List.append_nil,List.cons_append,ZH,ZC,ZE];first|done|rfl)) (hZ _) ?_|refine Zr ?_)
   all_goals try first|contradiction|omega
   all_goals refine ZO hA (by simp) Y Y Y Y ?_
   all_goals rfl
 | @inner h l hh h2 h4 hl hb hv ih =>
  intro hc st
  have hZ:=fun st=>ZGm (.mk 0 (h+1) .zero [] (some l)) ⟨rfl,rfl,rfl,Nat.succ_le_succ (Nat.zero_le _),hh,h2,h4⟩ st
  have e:(Tr.mk 0 (h+1) .zero [] (some l)).cnt=1+Tr.cntL l:=by rw[Tr.cnt,if_pos rfl];rfl
  rw[e]at hc ⊢;simp only[Tr.av,Tr.avO,Tr.avL_map,Mea.zero]at hZ ⊢
  refine Zj Y (fun A hA=>?_)
  repeat'(first|refine ruS Y ?_|refine isS Y ?_|refine ZB Y Y Y Y ?_|refine ZX ?_|(refine cm0 Y Y Y ?_ ?_<;>intro _<;>try omega)|refine ZJ Y Y Y ?_|refine ZA Y Y (by first|rfl|(simp only[List.nil_append,List.append_nil,List.cons_append,ZH,ZC,ZE];first|done|rfl)) (hZ _) ?_)
  all_goals try first|contradiction|omega
  refine Zc (α:=Nat) (fun i=>[(1,.ptr A.length 0 0 0 0),(3,.int .i64 ((1+Tr.cntL (l.take i):Nat):Int)),(4,.int .i64 i)])
   (fun i=>⟨A,false,[.arr 7 0 [.agg [.int .u64 (0:Nat),.int .i64 ((h+1:Nat):Int),.int .i64 0,.int .i64 0,.int .i64 0,.str [],.lit (l.map Tr.av)]]]⟩) (fun i=>i<=l.length) (fun i=>l.length-i) 0 ?_ rfl (by simp) ?_
  ·simp[Tr.cntL]
  intro i hi;have h6:=ZCs l i;have h7:=ZCs l (i+1)
  rcases Nat.lt_or_ge i l.length with hlt|hge
  ·obtain⟨u,hu⟩:∃u,l[i]?=some u:=⟨l[i]'hlt,jE _⟩
   have q:0<=((i:Nat):Int)/\l[((i:Nat):Int).toNat]?=some u:=⟨by omega,by rw[show ((i:Nat):Int).toNat=i by omega];exact hu⟩
   have hm:=jM hu
   have h5:=ih u hm (by have:=Zqj hm;omega)
   rw[ZU hu,Tr.cntL_append,Tr.cntL,Tr.cntL]at h7
   have e2:((1+Tr.cntL (l.take i):Nat):Int)+(u.cnt:Int)=((1+Tr.cntL (l.take (i+1)):Nat):Int):=by
    rw[ZU hu,Tr.cntL_append,Tr.cntL,Tr.cntL];omega
   repeat'(first|refine Z6 (f:=Tr.av) Y Y q ZQ ?_|refine ruS Y ?_|refine isS Y ?_|refine ZB Y Y Y Y ?_|refine rkS Y ?_|refine Zi Y ?_|(refine cm0 Y Y Y ?_ ?_<;>intro _<;>try omega)|refine ZL Y Y (by omega) ?_|refine Zk Y (ZG _) ?_|refine ZA Y Y (by first|rfl|(simp only[List.nil_append,List.append_nil,List.cons_append,ZH,ZC,ZE];first|done|rfl)) (h5 _) ?_)
   all_goals try omega
   exact⟨i+1,⟨by rw[<- e2];rfl,rfl⟩,by omega,by omega⟩
  ·obtain rfl:i=l.length:=by omega
   rw[List.take_length]
   repeat'(first|refine ruS Y ?_|refine isS Y ?_|refine ZB Y Y Y Y ?_|refine rkS Y ?_|refine Zi Y ?_|(refine cm0 Y Y Y ?_ ?_<;>intro _<;>try omega))
   all_goals try omega
   refine ZO hA (by simp) Y Y Y Y ?_
   rfl
theorem ZRH{N:ZF}(hl:N.length<4294967296){lv:Nat}(hr:RRd st lv ix N){y:Tr}(hx:VE N x)(hy:VE N y)(hbx:x.bytes<=65536)(hby:y.bytes<=65536):S Tb Yq [.ptr lv ix 0 0 0,x.av,y.av] st=some (.int .i64 0,st):=by
 refine Zj Y (fun A hA=>?_)
 have hC1:=fun L=>ZUt hl (hr.push hA (ro:=false) (L:=L)) hx hbx
 have hC2:=fun L=>ZUt hl (hr.push hA (ro:=false) (L:=L)) hy hby
 repeat'(first|refine ruS Y ?_|refine isS Y ?_|refine rkS Y ?_|(refine cm0 Y Y Y ?_ ?_<;>intro _<;>try omega)|refine Z5 Y Y (ZG _) ?_|refine ZB Y Y Y (ZG _) ?_|refine Za Y (ZQ _) (Zg _) ?_|refine ZA Y Y (by first|rfl|(simp only[List.nil_append,List.append_nil,List.cons_append,ZH,ZC,ZE];first|done|rfl)) (hC1 _) ?_|refine ZA Y Y (by first|rfl|(simp only[List.nil_append,List.append_nil,List.cons_append,ZH,ZC,ZE];first|done|rfl)) (hC2 _) ?_)
 all_goals try first|contradiction|omega
 all_goals refine ZO hA (by simp) Y Y Y Y ?_
 all_goals rfl
theorem Znd{N:ZF}(hN:GoodN N)(hl:N.length<4294967296){lv:Nat}(hr:RRd st lv ix N){y:Tr}(hx:VE N x)(hy:VE N y)(hb:x.bytes+y.bytes<=65536):
 S Tb XR [.ptr lv ix 0 0 0,x.av,y.av] st=some (.tup [(JY N x y).av,.int .i64 0],st):=by
 refine Zj Y (fun A hA=>?_)
 have hrp:=fun L=>hr.push hA (ro:=false) (L:=L)
 have n1:=hx.pos.2;have n2:=hy.pos.2
 have hP:=fun L=>ZRH hl (hrp L) hx hy (by omega) (by omega)
 have hB1:=fun st=>Q3 hx (by omega) st
 have hB2:=fun st=>Q3 hy (by omega) st
 have hJ:=fun L=>ZBp hN hl (hrp L) hx hy (by omega) (by omega)
 generalize JY N x y=z at *
 repeat'(first|refine ruS Y ?_|refine isS Y ?_|refine rkS Y ?_|(refine cm0 Y Y Y ?_ ?_<;>intro _<;>try omega)|(refine cm0 Y Y Y ?_ ?_<;>intro _<;>try omega)|refine ZL Y Y (by omega) ?_|refine ZJ Y Y Y ?_|refine ZB Y Y Y (ZG _) ?_|refine Ze Y Y Y (Zn _ _ _) (Zx _ _) Y ?_|refine Za Y (ZQ _) (Zg _) ?_|refine ZA Y Y (by first|rfl|(simp only[List.nil_append,List.append_nil,List.cons_append,ZH,ZC,ZE];first|done|rfl)) (hP _) ?_|refine Zw Y Y (wk1 _) (hB1 _) ?_|refine ZA Y Y (by first|rfl|(simp only[List.nil_append,List.append_nil,List.cons_append,ZH,ZC,ZE];first|done|rfl)) (hB2 _) ?_|refine ZA Y Y (by first|rfl|(simp only[List.nil_append,List.append_nil,List.cons_append,ZH,ZC,ZE];first|done|rfl)) (hJ _) ?_)
 all_goals try first|contradiction|omega
 all_goals exact ZCn hA (.inr Y) Y Y Y Y
section
variable {O:Orc}{k:List Fr}{Q:Qn}{e:Env}{A:List (Bool × List Blk)}{L L0 T T':List Blk}{keep:List Nat}{is:List PI}{d:Nat}
theorem ZWz{bytes m:Nat}{x:Opd}{y:AV}(hs:ZY e s=some .nils)(hx:ZY e x=some (.lit [y]))(hw:bytes<=4096)(hsm:y.wide=some w)(hm:Zjt T=some m)(hL:Jf (T++[Blk.arr w 0 [y]])=some T')
 (h:Is O is keep k Q ((d,.ref A.length (L0.length+m) 0 0 1)::e) ⟨A,false,L0++T'⟩):Is O (⟨some d,none,false,.app w bytes s x⟩::is) keep k Q e ⟨A,false,L0++T⟩:=by
 rw[<- QP hL,<- ZCx hm,<- List.append_assoc,<- List.length_append]at h;refine Zq (v:=.ref A.length (L0++T).length 0 0 1) (st':=⟨A,false,L0++T++[Blk.arr w 0 [y]]⟩) ?_ h
 have hw2:JH w [y]=true:=by simp[JH,hsm]
 simp only[Zd,evalPO,ZD hs,ZD hx,elems,Option.bind_some,Q4,hw2,List.length_singleton,if_pos (show 1<4294967296/\bytes<=4096/\True from ⟨by decide,hw,trivial⟩),St.new_cur,JO]
theorem Zfo{bytes:Nat}{x:Opd}{y:AV}(hs:ZY e s=some (.ref A.length (L0.length+ix) ver 0 n))(hx:ZY e x=some (.lit [y]))(hg:T[ix]?=some (Blk.arr w ver es))(hb:n=es.length)
 (hl:es.length+1<4294967296) (hw:bytes<=4096) (hsm:y.wide=some w) (hm:Zb QK (A.length+1) ⟨A,false,L0++T⟩ y=some (y,⟨A,false,L0++T⟩)) (hL:Jf (T.set ix (Blk.arr w (ver+1) (es++[y])))=some T')
 (h:Is O is keep k Q ((d,.ref A.length (L0.length+ix) (ver+1) 0 (n+1))::e) ⟨A,false,L0++T'⟩):Is O (⟨some d,none,false,.app w bytes s x⟩::is) keep k Q e ⟨A,false,L0++T⟩:=by
 rw[<- QP hL,<- ZWv]at h
 exact ZDI hs hx (by rw[J4];exact hg) hb hl hw hsm hm h
end
def r0(lv b k:Nat):Blk:=.arr 4 0 [.agg [.int .u64 3,.ref lv (b+1) 699 0 700,.ref lv (b+2) 699 0 700,.ref lv (b+3) 699 0 (700-k)]]
def r1(k:Nat):Blk:=.arr 1 699 (((List.range 700).map fun (j:Nat)=>if j<k then (1:Int) else 0).map (.int .i64))
def r2:Blk:=.arr 1 699 (List.replicate 700 (.int .u64 1))
def r3:Blk:=.arr 1 699 ((List.range 700).map fun (j:Nat)=>.int .i64 ((700:Int)-1-j))
def itV(lv it:Nat):ZF->AV
 | []=>.nils
 | p::N=>.ref lv it N.length 0 (N.length+1)
def r4(lv b it:Nat)(N:ZF):Blk:=.arr 9 0 [.agg [.ptr lv b 0 0 0,itV lv it N,.int .i64 0,.int .i64 0,.int .i64 0,.int .i64 0,.int .i64 N.length,.int .i64 0,.int .i64 0]]
theorem ZwU(m g:Nat)(hm:m<16384)(hg:1<=g/\g<=4294967295)(A:List (Bool × List Blk))(L0:List Blk):
 S Tb ZAh [.int .i64 ((m+1:Nat):Int),.int .u64 g] ⟨A,false,L0⟩=some (.tup [.ptr A.length (L0.length+0) 0 0 0,.int .i64 0],⟨A,false,L0 ++
  [.arr 4 0 [.agg [.int .u64 g,.ref A.length (L0.length+1) m 0 (m+1),.ref A.length (L0.length+2) m 0 (m+1),.ref A.length (L0.length+3) m 0 (m+1)]],
   .arr 1 m (List.replicate (m+1) (.int .i64 0)),.arr 1 m (List.replicate (m+1) (.int .u64 1)),.arr 1 m ((List.range (m+1)).map fun (j:Nat)=>.int .i64 (((m+1:Nat):Int)-1-j))]⟩):=by
 refine ZXL Y ?_
 have e0:(⟨A,false,L0⟩:St)=⟨A,false,L0++[]⟩:=by rw[List.append_nil]
 rw[e0]
 repeat'(first|refine QW Y Y Y Y Y ?_|refine ruS Y ?_|refine isS Y ?_|refine ZX ?_|(refine cm0 Y Y Y ?_ ?_<;>intro _<;>try omega)|refine ZZ Y Y Y ?_)
 refine Zr ?_
 repeat'(first|refine QI Y Y Y Y ?_|refine ZWz Y Y (by decide) Y Y Y ?_|refine QO Y Y Y Y (Qv _ (Nat.lt_succ_self _)) Y Y ?_|refine ruS Y ?_|refine isS Y ?_|refine rkS Y ?_|(refine cm0 Y Y Y ?_ ?_<;>intro _<;>try omega)|refine ZL Y Y (by omega) ?_|refine QC Y Y (by omega) ?_|refine Zz Y Y Y Y ?_)
 refine Zc (α:=Nat) (fun j=>[(0,.int .i64 ((m+1:Nat):Int)),(6,.ptr A.length (L0.length+0) 0 0 0),(7,.int .i64 ((j+1:Nat):Int))])
  (fun j=>⟨A,false,L0++[.arr 4 0 [.agg [.int .u64 g,.ref A.length (L0.length+1) j 0 (j+1),.ref A.length (L0.length+2) j 0 (j+1),.ref A.length (L0.length+3) j 0 (j+1)]],
   .arr 1 j (List.replicate (j+1) (.int .i64 0)),.arr 1 j (List.replicate (j+1) (.int .u64 1)),.arr 1 j ((List.range (j+1)).map fun (q:Nat)=>.int .i64 (((m+1:Nat):Int)-1-q))]⟩)
  (fun j=>j<=m) (fun j=>m-j) 0 rfl rfl (Nat.zero_le _) ?_
 intro j hj
 have r1:∀x:AV,List.replicate (j+1) x++[x]=List.replicate (j+1+1) x:=fun x=>by rw[List.replicate_succ' (n:=j+1)]
 have r2:((List.range (j+1)).map fun (q:Nat)=>AV.int .i64 (((m+1:Nat):Int)-1-q))++[.int .i64 (((m+1:Nat):Int)-1-((j+1:Nat):Int))]=(List.range (j+1+1)).map fun (q:Nat)=>AV.int .i64 (((m+1:Nat):Int)-1-q):=by
  rw[List.range_succ (n:=j+1),List.map_append];rfl
 repeat'(first|refine QI Y Y Y Y ?_|refine ruS Y ?_|refine isS Y ?_|refine rkS Y ?_|(refine cm0 Y Y Y ?_ ?_<;>intro _<;>try omega)|refine Zz Y Y Y Y ?_)
 ·refine Zfo Y Y Y (by simp) (by simp;omega) (by decide) rfl rfl rfl ?_
  rw[r1]
  repeat'(first|refine QI Y Y Y Y ?_|refine QO Y Y Y Y (Qv _ (Nat.lt_succ_self _)) Y Y ?_|refine ruS Y ?_|refine isS Y ?_|refine ZX ?_|refine Zz Y Y Y Y ?_)
  refine Zfo Y Y Y (by simp) (by simp;omega) (by decide) rfl rfl rfl ?_
  rw[r1]
  repeat'(first|refine QI Y Y Y Y ?_|refine QO Y Y Y Y (Qv _ (Nat.lt_succ_self _)) Y Y ?_|refine Qp ?_|refine isS Y ?_|refine ZX ?_|refine QC Y Y (by omega) ?_|refine Zz Y Y Y Y ?_)
  refine Zfo Y Y Y (by simp) (by simp;omega) (by decide) rfl rfl rfl ?_
  rw[r2]
  repeat'(first|refine QO Y Y Y Y (Qv _ (Nat.lt_succ_self _)) Y Y ?_|refine Qp ?_|refine isS Y ?_|refine rkS Y ?_|refine ZL Y Y (by omega) ?_)
  exact⟨j+1,⟨rfl,rfl⟩,by omega,by omega⟩
 ·obtain rfl:j=m:=by omega
  rfl
theorem ZwV:r1 0=.arr 1 699 (List.replicate (699+1) (.int .i64 0)):=by
 unfold r1;simp only[Nat.not_lt_zero,if_false,List.map_const',List.length_range,List.map_replicate]
theorem ZxY(A:List (Bool × List Blk))(L0:List Blk):
 S Tb XF [.int .i64 700,.int .u64 3] ⟨A,false,L0⟩=some (.tup [.ptr A.length (L0.length+4) 0 0 0,.int .i64 0],⟨A,false,L0++[r0 A.length L0.length 0,r1 0,r2,r3,r4 A.length L0.length 0 []]⟩):=by
 refine ZXL Y ?_
 have hN:=ZwU 699 3 (by decide) ⟨by decide,by decide⟩ A L0
 repeat'(first|refine QW Y Y Y Y Y ?_|refine ruS Y ?_|refine isS Y ?_|refine rkS Y ?_|(refine cm0 Y Y Y ?_ ?_<;>intro _<;>try omega)|refine ZZ Y Y Y ?_|refine ZA Y Y Y (hN) ?_)
 rw[ZwV];rfl
structure APost(P:List Blk->ZF->(Nat->Prop)->Prop)(L:List Blk)(I:Nat->Prop)(N':ZF)(L':List Blk)(I':Nat->Prop):Prop where
 p:P L' N' I'
 len:L.length<=L'.length
 old:∀i,i<L.length->¬ I i->L'[i]?=L[i]?
 own:∀i,I' i->I i\/L.length<=i
structure Allocs(A:List (Bool × List Blk))(g:FuncId)(P:List Blk->ZF->(Nat->Prop)->Nat->Prop):Prop where
 frame:∀ {L L' N I p},P L N I p->(∀i,I i->L'[i]?=L[i]?)->P L' N I p
 lt:∀ {L N I p i},P L N I p->I i->i<L.length
 leaf:∀ {L N I p} (s:B8),P L N I p->Ord N->N.length<700->Xn s->∃L' I',
  S Tb g [.ptr A.length p 0 0 0,.agg [.int .i64 (0:Nat),.str s,.nils]] ⟨A,false,L⟩=some (.tup [.int .u64 ((hd N:Nat):Int),.int .i64 0],⟨A,false,L'⟩)/\APost (fun L N I=>P L N I p) L I (N++[(hd N,⟨0,s,some []⟩)]) L' I'
 inn:∀ {L N I p} (n:Nat) (ks:List Kid) {kx ver:Nat},P L N I p->Ord N->N.length<700->n<=15->2<=ks.length/\ks.length<=4->(∀k∈ks,KidOk n k)->(QX (ks.map Kid.m)).b<=65536->ZIM N n ks->KRef ⟨A,false,L⟩ A.length kx ver ks->¬ I kx->∃L' I',
  S Tb g [.ptr A.length p 0 0 0,ndR (n+1) A.length kx ver ks.length] ⟨A,false,L⟩=some (.tup [.int .u64 ((hd N:Nat):Int),.int .i64 0],⟨A,false,L'⟩)/\APost (fun L N I=>P L N I p) L I (N++[(hd N,⟨n+1,[],some ks⟩)]) L' I'
theorem ZxZ:∀n N t N' k,WrH n N t N' k->Ord N->Ord N':=by
 have hc:∀(P:ZF->Tr->ZF->Kid->Prop),(∀N t N' k,P N t N' k->Ord N->Ord N')->∀ts N N' l,Zfj P N ts N' l->Ord N->Ord N':=by
  intro P hP ts
  induction ts with
  | nil=>intro N N' l h o;rw[h.1];exact o
  | cons t ts ih =>
   rintro N N' l ⟨N1,k,l1,h1,h2,_⟩ o
   exact ih N1 N' l1 h2 (hP _ _ _ _ h1 o)
 intro n
 induction n with
 | zero=>rintro N t N' k ⟨s,ks,_,_,_,rfl,_⟩ o;exact o.snoc _
 | succ n ih =>
  rintro N t N' k ⟨ts,N1,l,_,_,_,h,_,_,_,_,rfl,_⟩ o
  exact (hc _ ih _ _ _ _ h o).snoc _
theorem ZAP{L T:List Blk}{b:Blk}(h:L[i]?=some b):(L++T)[i]?=some b:=by
 rw[jL (List.getElem?_eq_some_iff.1 h).1];exact h
theorem Zne{L T:List Blk}(h:i<L.length):(L++T)[i]?=L[i]?:=jL h
theorem ZRI(r:Ro):Jn r.av true 0 5=some r.av:=by cases r;rfl
theorem ZY0{L:List Blk}{x:Ex}{c:Nat}{r:Ro}{k:IntKind}{n:Int}(hx:x=.norm\/x=.ret)(hb:JV e b=some (.ptr A.length ix ver 0 0))(hg:L[ix]?=some (.arr 5 ver [r.av]))(hc:JV e c=some (.int k n))(hu:.tup [r.av,.int k n]=u):Jp true [.c b true 5,.s c] (x,e,⟨A,false,L⟩)=some (u,⟨A,false,L⟩):=by
 subst hu
 have h1:ZCJ ⟨A,false,L⟩ e (.c b true 5)=some r.av:=by
  simp only[ZCJ,Z9 hb,loadP,St.get_cur,hg,vis,ZGp,if_true,List.getElem?_cons_zero,Option.bind_some,ZRI]
 have h2:Qo ⟨A,false,L⟩ e [.c b true 5,.s c]=some (.tup [r.av,.int k n]):=by
  simp only[Qo,ZC8,h1,Option.bind_some];simp only[ZCJ,Z9 hc,Option.bind_some,Option.map_some,ZGq]
 rcases hx with rfl|rfl<;>simp only[Jp,h2,Option.bind_some,if_true,Qe]
theorem Zpi{P:List Blk->ZF->(Nat->Prop)->Nat->Prop}(hA:Allocs A g P){N N':ZF}{k:Kid}(hw:WrH 0 N t N' k)(ho:Ord N)(hl:N'.length<=700){L:List Blk}{I:Nat->Prop}(hP:P L N I p):
 ∃L' I',S Tb Z2 [.func (.func g) [.ptr A.length p 0 0 0] [],t.av] ⟨A,false,L⟩=some (.tup [Ro.av ⟨k.at_,0,k.m⟩,.int .i64 0],⟨A,false,L'⟩)/\APost (fun L N I=>P L N I p) L I N' L' I':=by
 obtain⟨s,ks,rfl,hk,hs,rfl,rfl⟩:=hw
 have hZ:=fun st=>ZK9 (.mk 0 0 .zero s ks) ⟨rfl,rfl,rfl,hs.1,hs.2,hk⟩ st
 have hM:=fun st=>ZQw s (by have:=hs.2;omega) st
 obtain⟨T,hT⟩:∃T:List Blk,T=[.arr 7 0 [(Tr.mk 0 0 .zero s ks).av],.arr 5 0 [.agg [.int .u64 0,.int .i64 0,.int .i64 0,.int .i64 0,.int .i64 0]],.arr 3 0 [.agg [.int .i64 (0:Nat),.str s,.nils]],.arr 3 0 [(ZAz s).av]]:=⟨_,rfl⟩
 have hP':P (L++T) N I p:=hA.frame hP (fun i hi=>jL (hA.lt hP hi))
 obtain⟨L1,I1,hS,hp⟩:=hA.leaf s hP' ho (by simp at hl;omega) hs
 have hTl:T.length=4:=by rw[hT];rfl
 have gT:∀i b,T[i]?=some b->L1[L.length+i]?=some b:=by
  intro i b hb;have hi:i<T.length:=(List.getElem?_eq_some_iff.1 hb).1
  rw[hp.old _ (by rw[List.length_append];omega) (fun q=>by have:=hA.lt hP q;omega),J4];exact hb
 have q0:=gT 0 _ (by rw[hT];rfl)
 have q1:=gT 1 _ (by rw[hT];rfl)
 have q3:=gT 3 _ (by rw[hT];rfl)
 have hlen:=hp.len;rw[List.length_append]at hlen;refine⟨L1.set (L.length+1) (.arr 5 0 [Ro.av ⟨hd N,0,ZAz s⟩]),I1,ZXL Y ?_,?_⟩
 ·have e0:(⟨A,false,L⟩:St)=⟨A,false,L++[]⟩:=by rw[List.append_nil]
  rw[e0]
  obtain⟨ka,hka⟩:∃ka,Tr.avO ks=ka/\(ka=.nils\/ka=.lit []):=by
   cases ks with
   | none=>exact⟨_,rfl,.inl Y⟩
   | some l=>have:l=[]:=hk;subst this;exact⟨_,rfl,.inr Y⟩
  obtain⟨hka,hka2⟩:=hka
  simp only[Tr.av,Mea.zero,hka]at *
  rcases hka2 with rfl|rfl
  all_goals repeat'(first|refine QW Y Y Y Y Y ?_|refine QI Y Y Y Y ?_|refine QO Y Y Y Y Y Y Y ?_|refine ruS Y ?_|refine isS Y ?_|refine ZX ?_|(refine cm0 Y Y Y ?_ ?_<;>intro _<;>try omega)|refine ZZ Y Y Y ?_|refine ZA Y Y Y (hZ _) ?_|refine ZA Y Y Y (hM _) ?_)
  all_goals refine Zr ?_
  all_goals rw[hT]at hS
  all_goals repeat'(first|refine QI Y Y Y Y ?_|refine ZB Y q0 Y Y ?_|refine ZB Y q3 Y Y ?_|refine Q1 q1 Y Y Y Y Y ?_|refine ruS Y ?_|refine isS Y ?_|refine rkS Y ?_|refine Qg Y Y ?_|refine QG Y ?_|(refine cm0 Y Y Y ?_ ?_<;>intro _<;>try omega)|refine ZZ Y Y Y ?_|refine ZA Y Y Y (hS) ?_)
  all_goals exact ZY0 (r:=⟨hd N,0,ZAz s⟩) (.inr Y) Y (List.getElem?_set_self (by omega)) Y Y
 ·refine⟨hA.frame hp.p (fun i hi=>?_),by rw[List.length_set];omega,fun i h1 h2=>?_,fun i hi=>?_⟩
  ·rw[jS]
   rcases hp.own i hi with q|q
   ·have:=hA.lt hP q;omega
   ·rw[List.length_append]at q;omega
  ·rw[jS (by omega),hp.old i (by rw[List.length_append];omega) h2,Zne h1]
  ·rcases hp.own i hi with q|q
   ·exact .inl q
   ·rw[List.length_append]at q;exact .inr (by omega)
def ZIN:Nat->List B8->Nat
 | n,[]=>n
 | n,t::ts=>if n<=900 then ZIN (n+min t.length 1000) ts else n
def Zfp(l:List B8):Prop:=4<l.length\/900<ZIN 0 l
instance (l:List B8):Decidable (Zfp l):=by unfold Zfp;infer_instance
theorem ZW0:∀(l:List B8) (n:Nat),n<=ZIN n l
 | [],n=>by simp[ZIN]
 | t::ts,n=>by
  rw[ZIN]
  by_cases h:n<=900
  ·rw[if_pos h];have:=ZW0 ts (n+min t.length 1000);omega
  ·rw[if_neg h];exact Nat.le_refl _
theorem ZjF:∀(l:List B8) (n:Nat),ZIN n l<=900->n+(l.map List.length).sum<=900
 | [],n,h=>by simpa [ZIN] using h
 | t::ts,n,h=>by
  rw[ZIN]at h
  by_cases hn:n<=900
  ·rw[if_pos hn]at h
   have h1:=ZW0 ts (n+min t.length 1000);have h2:=ZjF ts _ h;rw[jC,List.sum_cons];omega
  ·rw[if_neg hn]at h;omega
theorem ZY1{α:Type}{l:List α}{a:α}(h:l[i]?=some a):l.drop i=a::l.drop (i+1):=by
 obtain⟨h1,h2⟩:=List.getElem?_eq_some_iff.1 h;subst h2;exact List.drop_eq_getElem_cons h1
theorem Znf{O:Orc}{k:List Fr}{Q:Qn}{keep:List Nat}{is:List PI}{d:Nat}{α:Type}{f:α->AV}{x:Opd}{l:List α}(hx:ZY e x=some (.lit (l.map f)))(h:Is O is keep k Q ((d,.int .i64 l.length)::e) st):Is O (⟨some d,none,false,.len 1 x⟩::is) keep k Q e st:=by
 refine Zb4 hx ?_;rw[List.length_map];exact h
theorem Zxa(l:List B8)(hb:l.length<9223372036854775808)(hs:∀s∈l,s.length<9223372036854775808)(st:St):S Tb ZAG [.lit (l.map .str)] st=some (.bool (decide (Zfp l)),st):=by
 refine Zj Y (fun A hA=>?_)
 repeat'(first|refine ruS Y ?_|refine isS Y ?_|refine ZX ?_)
 refine Zc (α:=Nat × Nat) (fun p=>[(0,.lit (l.map .str)),(3,.int .i64 p.2),(4,.int .i64 p.1)]) (fun p=>⟨A,false,[]⟩) (fun p=>p.1<=l.length/\p.2<=1900/\ZIN p.2 (l.drop p.1)=ZIN 0 l) (fun p=>l.length-p.1) (0,0) Y Y ⟨Nat.zero_le _,Nat.zero_le _,rfl⟩ ?_
 rintro⟨i,n⟩ ⟨h1,h2,h3⟩
 simp only at h1 h2 h3 ⊢
 repeat'(first|refine ruS Y ?_|refine isS Y ?_|refine rkS Y ?_|refine Qf Y ?_|refine Zi Y ?_|refine Zk Y Y ?_|refine QY Y Y (by omega) (fun _=>rfl) (fun _ _=>?_)|(refine cm0 Y Y Y ?_ ?_<;>intro _<;>try omega)|refine Zc9 Y Y ?_)
 ·rename_i hlt hn x hx
  have hx':l[i]?=some x:=by rw[show i=((i:Nat):Int).toNat by omega];exact hx
  have hxl:=hs x (jM hx')
  have e1:(if false=true then max (x.length:Int) 1000 else min (x.length:Int) 1000)=((min x.length 1000:Nat):Int):=by
   simp only[jB,if_false];omega
  rw[e1]
  refine ZL Y Y (by omega) ?_
  rw[show (n:Int)+((min x.length 1000:Nat):Int)=((n+min x.length 1000:Nat):Int) by omega]
  repeat'(first|refine Qp ?_|refine isS Y ?_|refine rkS Y ?_|refine ZL Y Y (by omega) ?_)
  refine⟨(i+1,n+min x.length 1000),⟨rfl,rfl⟩,⟨by simp only;omega,by simp only;omega,?_⟩,by simp only;omega⟩
  rw[<- h3,ZY1 hx',ZIN,if_pos (by omega)]
 ·refine ZAd hA (by simp) Y Y ?_
  exact (decide_eq_true (.inl (by omega))).symm
 ·refine ZAd hA (by simp) Y Y ?_
  refine (decide_eq_true (.inr ?_)).symm
  have:=ZW0 (l.drop i) n
  omega
 ·refine ZAd hA (by simp) Y Y ?_
  exact (decide_eq_true (.inl (by omega))).symm
 ·refine ZAd hA (by simp) Y Y ?_
  refine (decide_eq_true (.inr ?_)).symm
  have:=ZW0 (l.drop i) n
  omega
 ·refine ZAd hA (by simp) Y Y ?_
  refine (decide_eq_false ?_).symm
  have:l.drop i=[]:=List.drop_eq_nil_of_le (by omega)
  rw[this,ZIN]at h3
  rintro (h|h)<;>omega
structure Stp where
 what:Nat
 at_:Int
 n:Int
 text:B8
def Stp.av(y:Stp):AV:=.agg [.int .u8 y.what,.int .i64 y.at_,.int .i64 y.n,.str y.text]
def Zqk(l:List Stp):Prop:=(∃s∈l.take 100,200<s.text.length)\/30<l.length
open Classical in
noncomputable instance (l:List Stp):Decidable (Zqk l):=Classical.propDecidable _
theorem Zxb(l:List Stp)(hb:l.length<9223372036854775808)(hs:∀s∈l,s.text.length<9223372036854775808)(st:St):S Tb ZAH [.lit (l.map Stp.av)] st=some (.bool (decide (Zqk l)),st):=by
 refine Zj Y (fun A hA=>?_)
 repeat'(first|refine ruS Y ?_|refine isS Y ?_|refine ZX ?_)
 refine Zc (α:=Nat) (fun i=>[(0,.lit (l.map Stp.av)),(3,.int .i64 i)]) (fun p=>⟨A,false,[]⟩) (fun i=>i<=l.length/\i<=100/\∀j s,j<i->l[j]?=some s->s.text.length<=200) (fun i=>l.length-i) 0 Y Y ⟨Nat.zero_le _,Nat.zero_le _,fun j s h=>by omega⟩ ?_
 rintro i ⟨h1,h2,h3⟩
 have key:∀ {j:Nat} {s:Stp},(l.length:Int)<=i\/100<=(i:Int)->s∈l.take 100->s.text.length<=200:=by
  intro j s hi hm;obtain⟨j,hj⟩:=List.mem_iff_getElem?.1 hm;have hj1:=(List.getElem?_eq_some_iff.1 hj).1;rw[List.length_take]at hj1
  rw[List.getElem?_take,if_pos (by omega)]at hj
  exact h3 j s (by omega) hj
 repeat'(first|refine ruS Y ?_|refine isS Y ?_|refine rkS Y ?_|refine Qf Y ?_|refine Zi Y ?_|refine Zk Y Y ?_|refine QY Y Y (by omega) (fun _=>rfl) (fun _ _=>?_)|(refine cm0 Y Y Y ?_ ?_<;>intro _<;>try omega)|refine ZL Y Y (by omega) ?_)
 ·rename_i hlt hn s hs' hbig
  have hs1:l[i]?=some s:=by rw[show i=((i:Nat):Int).toNat by omega];exact hs'
  refine ZAd hA (by simp) Y Y ?_
  refine (decide_eq_true (.inl ⟨s,?_,by omega⟩)).symm
  refine List.mem_iff_getElem?.2 ⟨i,?_⟩
  rw[List.getElem?_take,if_pos (by omega)];exact hs1
 ·rename_i hlt hn s hs' hbig
  have hs1:l[i]?=some s:=by rw[show i=((i:Nat):Int).toNat by omega];exact hs'
  refine⟨i+1,⟨rfl,rfl⟩,⟨by omega,by omega,fun j s2 hj h=>?_⟩,by omega⟩
  rcases Nat.lt_or_ge j i with q|q
  ·exact h3 j s2 q h
  ·obtain rfl:j=i:=by omega
   rw[hs1]at h
   have:=Option.some.inj h
   subst this;omega
 ·refine ZAd hA (by simp) Y Y ?_
  exact (decide_eq_true (.inr (by omega))).symm
 ·refine ZAd hA (by simp) Y Y ?_
  exact (decide_eq_true (.inr (by omega))).symm
 ·refine ZAd hA (by simp) Y Y ?_
  refine (decide_eq_false ?_).symm
  rintro (⟨s,h,hh⟩|h)
  ·have:=key (j:=0) (s:=s) (.inl (by omega)) h
   omega
  ·omega
theorem ZuA{l:List Stp}(h:¬ Zqk l):l.length<=30/\∀s∈l,s.text.length<=200:=by
 have h1:l.length<=30:=by
  rcases Nat.lt_or_ge 30 l.length with q|q
  ·exact absurd (.inr q) h
  ·exact q
 refine⟨h1,fun s hs=>?_⟩
 rcases Nat.lt_or_ge 200 s.text.length with q|q
 ·refine absurd (.inl ⟨s,?_,q⟩) h
  rw[List.take_of_length_le (by omega)];exact hs
 ·exact q
theorem ZuB{l:List B8}(h:¬ Zfp l):l.length<=4/\(l.map List.length).sum<=900:=by
 have h1:¬ 4<l.length:=fun q=>h (.inl q)
 have h2:¬ 900<ZIN 0 l:=fun q=>h (.inr q)
 have:=ZjF l 0 (by omega)
 exact⟨by omega,by omega⟩
structure RL(st:St)(lv b k:Nat):Prop where
 wr:st.wr lv
 h0:st.get lv b=some (r0 lv b k)
 h1:st.get lv (b+1)=some (r1 k)
 h2:st.get lv (b+2)=some r2
 h3:st.get lv (b+3)=some r3
def Zfq(st:St)(lv b k:Nat):St:=(st.upd lv b (r0 lv b (k+1))).upd lv (b+1) (r1 (k+1))
theorem ZRJ{lv:Nat}(h:RL st lv b k)(l' i':Nat):(Zfq st lv b k).get l' i'=if l'=lv/\i'=b+1 then some (r1 (k+1)) else if l'=lv/\i'=b then some (r0 lv b (k+1)) else st.get l' i':=by
 have g1:∀l' i',(st.upd lv b (r0 lv b (k+1))).get l' i'=if l'=lv/\i'=b then some (r0 lv b (k+1)) else st.get l' i':=fun l' i'=>St.get_upd h.h0 rfl
 have b1:(st.upd lv b (r0 lv b (k+1))).get lv (b+1)=some (r1 k):=by rw[g1,if_neg (by omega)];exact h.h1
 rw[Zfq,St.get_upd b1 rfl,g1]
theorem RL.take{lv:Nat}(h:RL st lv b k):RL (Zfq st lv b k) lv b (k+1):=by
 refine⟨St.wr_upd (St.wr_upd h.wr h.wr) (St.wr_upd h.wr h.wr),?_,?_,?_,?_⟩
 ·rw[ZRJ h,if_neg (by omega),if_pos ⟨rfl,rfl⟩]
 ·rw[ZRJ h,if_pos ⟨rfl,rfl⟩]
 ·rw[ZRJ h,if_neg (by omega),if_neg (by omega)];exact h.h2
 ·rw[ZRJ h,if_neg (by omega),if_neg (by omega)];exact h.h3
theorem Zxc(hk:k<700):((List.range 700).map fun (j:Nat)=>AV.int .i64 ((700:Int)-1-j))[699-k]?=some (.int .i64 k):=by
 rw[jG,List.getElem?_range (by omega)]
 simp only[Option.map_some]
 congr 2;omega
theorem ZwW{lv:Nat}(h:RL st lv b k)(hk:k<700):
 S Tb YZ [.ptr lv b 0 0 0] st=some (.tup [.int .u64 ((1*65536+k:Nat):Int),.int .i64 0],Zfq st lv b k):=by
 refine Zff Y (fun A hA=>?_)
 have g0:=fun L=>ZS hA (ro:=false) (L:=L) h.h0
 have g3:=fun L=>ZS hA (ro:=false) (L:=L) h.h3
 unfold r0 at g0;unfold r3 at g3
 obtain⟨q,hq⟩:∃q,700-k=q+1:=⟨699-k,by omega⟩
 rw[hq]at g0
 have hM:=fun st=>Zrk k 1 (by omega) ⟨by omega,by omega⟩ st
 repeat'(first|refine ruS Y ?_|refine isS Y ?_|refine ZX ?_|refine Zp Y ?_|(refine cm0 Y Y Y ?_ ?_<;>intro _<;>try omega)|refine QC Y Y (by omega) ?_|refine QD Y Y Y Y ?_|refine Z1 Y (g0 _) Y Y ?_)
 all_goals try omega
 have hw1:∀L,wIs 1 699 (St.get ⟨A,false,L⟩ lv (b+3))=true:=fun L=>by rw[g3];simp[wIs]
 refine JA Y Y (by omega) (hw1 _) ?_
 refine Z1 (x:=.int .i64 k) Y (g3 _) (by rw[show 0+(((q+1:Nat):Int)-1).toNat=699-k by omega];exact Zxc hk) Y ?_
 repeat'(first|refine ruS Y ?_|refine isS Y ?_|refine ZX ?_|refine Zp Y ?_|refine QC Y Y (by omega) ?_|refine Z1 Y (g0 _) Y Y ?_)
 refine ZAF Y Y (by omega) (hw1 _) ?_
 repeat'(refine isS Y ?_)
 have hle:=St.get_le h.h0;have h0':=h.h0;unfold r0 at h0';rw[hq]at h0'
 refine ZOP hA Y Y h.wr h0' Y (Qv _ (Nat.lt_succ_self _)) Y (fun A1 hA1=>?_)
 have eB:Blk.arr 4 0 ([AV.agg [.int .u64 3,.ref lv (b+1) 699 0 700,.ref lv (b+2) 699 0 700,.ref lv (b+3) 699 0 (q+1)]].set 0 (.agg [.int .u64 3,.ref lv (b+1) 699 0 700,.ref lv (b+2) 699 0 700,.ref lv (b+3) 699 0 (((q+1:Nat):Int)-1).toNat]))=r0 lv b (k+1):=by
  rw[show (((q+1:Nat):Int)-1).toNat=700-(k+1) by omega]
  rfl
 rw[eB]at hA1
 have q1:∀l' i',(st.upd lv b (r0 lv b (k+1))).get l' i'=if l'=lv/\i'=b then some (r0 lv b (k+1)) else st.get l' i':=fun l' i'=>St.get_upd h.h0 rfl
 have hw:=St.wr_upd (b:=r0 lv b (k+1)) (ix:=b) h.wr h.wr
 have k0:(st.upd lv b (r0 lv b (k+1))).get lv b=some (r0 lv b (k+1)):=by rw[q1,if_pos ⟨rfl,rfl⟩]
 have k1:(st.upd lv b (r0 lv b (k+1))).get lv (b+1)=some (r1 k):=by rw[q1,if_neg (by omega)];exact h.h1
 have k2:(st.upd lv b (r0 lv b (k+1))).get lv (b+2)=some r2:=by rw[q1,if_neg (by omega)];exact h.h2
 have et:Zfq st lv b k=(st.upd lv b (r0 lv b (k+1))).upd lv (b+1) (r1 (k+1)):=rfl;rw[et]
 generalize st.upd lv b (r0 lv b (k+1))=st1 at *
 unfold r1 at k1;have k0':=k0;unfold r0 at k0'
 have m0:=fun L=>ZS hA1 (ro:=false) (L:=L) k0'
 have m1:=fun L=>ZS hA1 (ro:=false) (L:=L) k1
 have hw0:∀L,wIs 1 699 (St.get ⟨A1,false,L⟩ lv (b+1))=true:=fun L=>by rw[m1];simp[wIs]
 repeat'(first|refine ruS Y ?_|refine isS Y ?_|refine ZX ?_|refine Z1 Y (m0 _) Y Y ?_|refine JA Y Y (by omega) (hw0 _) ?_)
 refine ZOP hA1 (y:=.int .i64 0) Y Y hw k1 ?_ Y Y (fun A2 hA2=>?_)
 ·rw[show 0+((k:Nat):Int).toNat=k by omega,jG,jG,List.getElem?_range (by omega)]
  simp
 have eS:Blk.arr 1 699 ((((List.range 700).map fun (j:Nat)=>if j<k then (1:Int) else 0).map (AV.int .i64)).set (0+((k:Nat):Int).toNat) (.int .i64 1))=r1 (k+1):=by
  rw[show 0+((k:Nat):Int).toNat=k by omega]
  unfold r1;rw[<- Zfk hk,List.map_set]
 rw[eS]at hA2
 have q2:∀l' i',(st1.upd lv (b+1) (r1 (k+1))).get l' i'=if l'=lv/\i'=b+1 then some (r1 (k+1)) else st1.get l' i':=fun l' i'=>St.get_upd k1 rfl
 have n2:(st1.upd lv (b+1) (r1 (k+1))).get lv (b+2)=some r2:=by rw[q2,if_neg (by omega)];exact k2
 have n0:(st1.upd lv (b+1) (r1 (k+1))).get lv b=some (r0 lv b (k+1)):=by rw[q2,if_neg (by omega)];exact k0
 generalize st1.upd lv (b+1) (r1 (k+1))=st2 at *
 unfold r2 at n2;unfold r0 at n0
 have o2:=fun L=>ZS hA2 (ro:=false) (L:=L) n2
 have o0:=fun L=>ZS hA2 (ro:=false) (L:=L) n0
 have hw2:∀L,wIs 1 699 (St.get ⟨A2,false,L⟩ lv (b+2))=true:=fun L=>by rw[o2];simp[wIs]
 repeat'(first|refine ruS Y ?_|refine isS Y ?_|refine ZX ?_|refine Z1 Y (o0 _) Y Y ?_|refine JA Y Y (by omega) (hw2 _) ?_)
 refine Z1 (x:=.int .u64 1) Y (o2 _) (by rw[show 0+((k:Nat):Int).toNat=k by omega,List.getElem?_replicate,if_pos hk]) rfl ?_
 repeat'(first|refine isS Y ?_|refine rkS Y ?_|refine ZA Y Y Y (hM _) ?_|refine Jq ?_)
 refine ZO hA2 (.inr Y) Y Y Y Y ?_;rfl
section
variable {O:Orc}{k:List Fr}{Q:Qn}{e:Env}{A:List (Bool × List Blk)}{L L0 T T':List Blk}{keep:List Nat}{is:List PI}{d:Nat}
theorem Zfr{x:Opd}{z:AV}(hx:ZY e x=some v)(hw:v.wide=some w)(hi:imm 6 v=true)(h:Is O is keep k Q ((d,.lit [v])::e) st):Is O (⟨some d,none,false,.w .imm (.bslice false w [z] [(0,x)])⟩::is) keep k Q e st:=by
 refine ZYt (v:=.lit [v]) (st':=st) ?_ h
 have hf:fillE w [z] [(0,v)]=some [v]:=by simp[fillE,hw]
 simp only[Zs,Zlo,JU,ZD hx,hf,Option.bind_some,ZcM,List.all_cons,List.all_nil,hi,Bool.and_self,if_true,List.isEmpty_cons,jB,if_false]
end
structure RHas(A:List (Bool × List Blk))(L:List Blk)(b it:Nat)(N:ZF):Prop where
 h0:L[b]?=some (r0 A.length b N.length)
 h1:L[b+1]?=some (r1 N.length)
 h2:L[b+2]?=some r2
 h3:L[b+3]?=some r3
 h4:L[b+4]?=some (r4 A.length b it N)
 hi:N≠[]->L[it]?=some (.arr 4 (N.length-1) (N.map ZAw))
 ne:N≠[]->(it<b\/b+4<it)
theorem ZAB{L:List Blk}{v:Nat}(h:L[i]?=some (.arr w v es)):St.get ⟨A,false,L⟩ A.length i=some (.arr w v es):=by
 rw[St.get_cur,h];rfl
theorem RHas.rrd{L:List Blk}{N:ZF}(h:RHas A L b it N):RRd ⟨A,false,L⟩ A.length (b+4) N:=by
 refine⟨_,_,_,_,_,_,_,_,_,ZAB h.h4,?_⟩
 cases N with
 | nil=>exact .nil
 | cons p N =>
  refine .ref (ZAB (h.hi (by simp))) Y ?_
  rw[List.take_of_length_le (by simp)]
theorem RHas.rl{L:List Blk}{N:ZF}(h:RHas A L b it N):RL ⟨A,false,L⟩ A.length b N.length :=
 ⟨by simp[St.wr],ZAB h.h0,ZAB h.h1,ZAB h.h2,ZAB h.h3⟩
theorem RHas.frame{L:List Blk}{N:ZF}(h:RHas A L b it N)(h0:∀i,b<=i->i<=b+4->L'[i]?=L[i]?)(h1:N≠[]->L'[it]?=L[it]?):RHas A L' b it N :=
 ⟨by rw[h0 _ (by omega) (by omega)];exact h.h0,by rw[h0 _ (by omega) (by omega)];exact h.h1,by rw[h0 _ (by omega) (by omega)];exact h.h2,by rw[h0 _ (by omega) (by omega)];exact h.h3,by rw[h0 _ (by omega) (by omega)];exact h.h4,fun q=>by rw[h1 q];exact h.hi q,h.ne⟩
theorem ZRK{L:List Blk}{b:Blk}:St.upd ⟨A,false,L⟩ A.length i b=⟨A,false,L.set i b⟩:=by simp[St.upd]
def ZGL(A:List (Bool × List Blk))(L:List Blk)(b k:Nat):List Blk:=(L.set b (r0 A.length b (k+1))).set (b+1) (r1 (k+1))
theorem Zrs{L T:List Blk}(h:b+1<L.length):Zfq ⟨A,false,L++T⟩ A.length b k=⟨A,false,ZGL A L b k++T⟩:=by
 unfold Zfq ZGL
 rw[ZRK,ZRK,List.set_append_left _ _ (by omega),List.set_append_left _ _ (by simp;omega)]
structure RPost(A:List (Bool × List Blk))(L:List Blk)(b it:Nat)(N:ZF)(x:Nd)(L':List Blk)(it':Nat):Prop where
 has:RHas A L' b it' (N++[(hd N,x)])
 len:L.length<L'.length
 old:∀i,i<L.length->(i<b\/b+4<i)->(N=[]\/i≠it)->L'[i]?=L[i]?
 it:(N≠[]/\it'=it)\/(L.length<=it'/\it'<L'.length)
theorem ZjG{L:List Blk}:(ZGL A L b k).length=L.length:=by simp[ZGL]
theorem ZjH{L:List Blk}(hj:j≠b/\j≠b+1):(ZGL A L b k)[j]?=L[j]?:=by
 unfold ZGL;rw[jS (by omega),jS (by omega)]
theorem ZwX{L:List Blk}(h:b<L.length):(ZGL A L b k)[b]?=some (r0 A.length b (k+1)):=by
 unfold ZGL;rw[jS (by omega),List.getElem?_set_self h]
theorem ZwY{L:List Blk}(h:b+1<L.length):(ZGL A L b k)[b+1]?=some (r1 (k+1)):=by
 unfold ZGL;rw[List.getElem?_set_self (by simpa using h)]
theorem Zfs{L:List Blk}{N:ZF}(h:RHas A L b it N)(hl:N.length<700)(n:Nat)(s:B8)(ks:List Kid)(w:AV)(hw:w.one=true)
 (hC:∀T,S Tb QT [.agg [.int .i64 n,.str s,w]] (St.allRo ⟨A,false,ZGL A L b N.length++T⟩)=some (Nd.av ⟨n,s,some ks⟩,St.allRo ⟨A,false,ZGL A L b N.length++T⟩)) :
 Ru (S Tb) (.seq XG (.seq (.seq Yx (.ite (.s 32) (.seq Yy .ret) .skip)) (.seq Yz (.seq Y0 (.seq Y1 .ret))))) []
  (fun x e st'=>∃v st'',Jp true [RV.s 4,RV.s 5] (x,e,st')=some (v,st'')/\v=.tup [.int .u64 ((hd N:Nat):Int),.int .i64 0]/\∃L' it',st''=⟨A,false,L'⟩/\RPost A L b it N ⟨n,s,some ks⟩ L' it')
  [(0,.ptr A.length (b+4) 0 0 0),(3,.ptr A.length (L.length+0) 0 0 0),(7,.int .i64 0),(21,.bool false)] ⟨A,false,L++[.arr 3 0 [.agg [.int .i64 n,.str s,w]]]⟩:=by
 have hb4:=(List.getElem?_eq_some_iff.1 h.h4).1
 have hF:∀T,RHas A (L++T) b it N:=fun T=>h.frame (fun i h1 h2=>jL (by omega)) (fun q=>jL (List.getElem?_eq_some_iff.1 (h.hi q)).1)
 have hT:=fun T=>ZwW (hF T).rl hl
 simp only[Zrs (show b+1<L.length by omega)]at hT
 have g4:∀T,(L++T)[b+4]?=some (r4 A.length b it N):=fun T=>(hF T).h4
 unfold r4 at g4
 repeat'(first|refine ZB Y (g4 _) Y Y ?_|refine ruS Y ?_|refine isS Y ?_|refine ZX ?_|(refine cm0 Y Y Y ?_ ?_<;>intro _<;>try omega)|refine ZA Y Y Y (hT _) ?_)
 have tl:=ZjG (A:=A) (L:=L) (b:=b) (k:=N.length)
 have k0:=ZwX (A:=A) (k:=N.length) (show b<L.length by omega)
 have k1:=ZwY (A:=A) (k:=N.length) (show b+1<L.length by omega)
 have kj:=fun j (hj:j≠b/\j≠b+1)=>ZjH (A:=A) (L:=L) (k:=N.length) hj
 generalize ZGL A L b N.length=L1 at *
 rw[<- tl]
 have q4:∀T,(L1++T)[b+4]?=some (r4 A.length b it N):=fun T=>by
  rw[jL (by omega),kj _ (by omega)];exact h.h4
 unfold r4 at q4;simp only[Nd.av,slV]at hC
 repeat'(first|refine QI Y Y Y Y ?_|refine ZB Y (q4 _) Y Y ?_|refine ZDH Y ?_|refine ZZ Y Y Y ?_|refine Zw Y Y Y (hC _) ?_|refine Zfr Y Y Y ?_)
 cases N with
 | nil =>
  refine ZWz Y Y (by decide) Y Y Y ?_
  have q5:∀T,(L1++T)[b+4]?=some (r4 A.length b it []):=q4;unfold r4 itV at q5
  repeat'(refine isS Y ?_)
  refine Q1 (q5 _) Y Y Y (Qv _ (Nat.lt_succ_self _)) Y ?_;generalize hL2:List.set _ (b+4) _=L2
  have l2:L2.length=L1.length+2:=by rw[<- hL2];simp
  have g2:L2[b+4]?=some (.arr 9 0 [.agg [.ptr A.length b 0 0 0,.ref A.length (L1.length+1) 0 0 1,.int .i64 0,.int .i64 0,.int .i64 0,.int .i64 0,.int .i64 0,.int .i64 0,.int .i64 0]]):=by
   rw[<- hL2,List.getElem?_set_self (by simp;omega)];rfl
  have o2:∀j,j≠b+4->L2[j]?=(L1++[Blk.arr 3 0 [AV.agg [AV.int .i64 n,.str s,w]],Blk.arr 4 0 [ZAw (hd [],⟨n,s,some ks⟩)]])[j]?:=by
   intro j hj
   rw[<- hL2,jS (by omega)];rfl
  clear hL2
  repeat'(first|refine ZB Y g2 Y Y ?_|refine ruS Y ?_|refine isS Y ?_|refine ZX ?_|refine ZL Y Y (by omega) ?_)
  refine Q1 g2 Y Y Y Y Y ?_
  repeat'(first|refine ruS Y ?_|refine isS Y ?_|refine rkS Y ?_)
  have n4:∀j,j≠b+4->∀X,(L2.set (b+4) X)[j]?=(L1++[Blk.arr 3 0 [AV.agg [AV.int .i64 n,.str s,w]],Blk.arr 4 0 [ZAw (hd [],⟨n,s,some ks⟩)]])[j]?:=by
   intro j hj X
   rw[jS (by omega),o2 j hj]
  refine⟨_,_,YA (.inr Y) Y Y Y Y,rfl,_,L1.length+1,rfl,⟨⟨?_,?_,?_,?_,?_,?_,?_⟩,?_,?_,?_⟩⟩
  ·rw[n4 _ (by omega),jL (by omega)];exact k0
  ·rw[n4 _ (by omega),jL (by omega)];exact k1
  ·rw[n4 _ (by omega),jL (by omega),kj _ (by omega)];exact h.h2
  ·rw[n4 _ (by omega),jL (by omega),kj _ (by omega)];exact h.h3
  ·rw[List.getElem?_set_self (by omega)];rfl
  ·intro _;rw[n4 _ (by omega),List.getElem?_append_right (by omega)]
   rw[show L1.length+1-L1.length=1 by omega];rfl
  ·intro _;omega
  ·rw[List.length_set];omega
  ·intro i h1 h2 h3
   rw[n4 _ (by omega),jL (by omega),kj _ (by omega)]
  ·rw[List.length_set];right;omega
 | cons p N =>
  have hit:=h.hi (by simp)
  have hne:=h.ne (by simp)
  have hil:=(List.getElem?_eq_some_iff.1 hit).1
  have q6:∀T,(L1++T)[it]?=some (.arr 4 N.length ((p::N).map ZAw)):=fun T=>by
   rw[jL (by omega),kj _ (by omega)];exact hit
  refine ZDI Y Y (q6 _) (by simp) (by simp at hl ⊢;omega) (by decide) rfl rfl ?_
  generalize hL3:List.set _ it _=L3
  have l3:L3.length=L1.length+1:=by rw[<- hL3];simp
  have i3:L3[it]?=some (.arr 4 (N.length+1) ((p::N++[(hd (p::N),(⟨n,s,some ks⟩:Nd))]).map ZAw)):=by
   rw[<- hL3,List.getElem?_set_self (by simp;omega),List.map_append];rfl
  have o3:∀j,j≠it->L3[j]?=(L1++[Blk.arr 3 0 [AV.agg [AV.int .i64 n,.str s,w]]])[j]?:=by
   intro j hj
   rw[<- hL3,jS (by omega)]
  clear hL3
  have q5:L3[b+4]?=some (r4 A.length b it (p::N)):=by rw[o3 _ (by omega)];exact q4 _
  unfold r4 itV at q5
  repeat'(refine isS Y ?_)
  refine Q1 q5 Y Y Y (Qv _ (Nat.lt_succ_self _)) Y ?_;generalize hL2:List.set _ (b+4) _=L2
  have l2:L2.length=L1.length+1:=by rw[<- hL2];simp;omega
  have g2:L2[b+4]?=some (.arr 9 0 [.agg [.ptr A.length b 0 0 0,.ref A.length it (N.length+1) 0 (N.length+1+1),.int .i64 0,.int .i64 0,.int .i64 0,.int .i64 0,.int .i64 ((p::N).length:Nat),.int .i64 0,.int .i64 0]]):=by
   rw[<- hL2,List.getElem?_set_self (by omega)];rfl
  have o2:∀j,j≠b+4->L2[j]?=L3[j]?:=by
   intro j hj
   rw[<- hL2,jS (by omega)]
  clear hL2
  repeat'(first|refine ZB Y g2 Y Y ?_|refine ruS Y ?_|refine isS Y ?_|refine ZX ?_|refine ZL Y Y (by omega) ?_)
  refine Q1 g2 Y Y Y Y Y ?_
  repeat'(first|refine ruS Y ?_|refine isS Y ?_|refine rkS Y ?_)
  have n4:∀j,j≠b+4->∀X,(L2.set (b+4) X)[j]?=L3[j]?:=by
   intro j hj X
   rw[jS (by omega),o2 j hj]
  refine⟨_,_,YA (.inr Y) Y Y Y Y,rfl,_,it,rfl,⟨⟨?_,?_,?_,?_,?_,?_,?_⟩,?_,?_,?_⟩⟩
  ·rw[n4 _ (by omega),o3 _ (by omega),jL (by omega),List.length_append];exact k0
  ·rw[n4 _ (by omega),o3 _ (by omega),jL (by omega),List.length_append];exact k1
  ·rw[n4 _ (by omega),o3 _ (by omega),jL (by omega),kj _ (by omega)];exact h.h2
  ·rw[n4 _ (by omega),o3 _ (by omega),jL (by omega),kj _ (by omega)];exact h.h3
  ·rw[List.getElem?_set_self (by omega)]
   simp only[r4,itV,List.cons_append,List.length_append,List.length_cons,List.length_nil];rfl
  ·intro _;rw[n4 _ (by omega),i3]
   simp
  ·intro _;omega
  ·rw[List.length_set];omega
  ·intro i h1 h2 h3
   have h4:i≠it:=by rcases h3 with q|q;simp at q;exact q
   rw[n4 _ (by omega),o3 _ h4,jL (by omega),kj _ (by omega)]
  ·exact .inl ⟨by simp,rfl⟩
theorem Zng{L:List Blk}{N:ZF}(h:RHas A L b it N)(hl:N.length<700)(s:B8)(hs:Xn s):
 ∃L' it',S Tb QE [.ptr A.length (b+4) 0 0 0,.agg [.int .i64 (0:Nat),.str s,.nils]] ⟨A,false,L⟩=some (.tup [.int .u64 ((hd N:Nat):Int),.int .i64 0],⟨A,false,L'⟩)/\RPost A L b it N ⟨0,s,some []⟩ L' it':=by
 have hN:=fun st=>ZZX ⟨0,s,none⟩ (.inl ⟨rfl,hs.1,hs.2,rfl⟩) st
 simp only[Nd.av,slV]at hN
 have hK:=fun st=>ZlU (lv:=A.length) (ix:=b+4) s (st:=st)
 suffices q:Sp Tb QE [.ptr A.length (b+4) 0 0 0,.agg [.int .i64 (0:Nat),.str s,.nils]] ⟨A,false,L⟩ fun v st'=>v=.tup [.int .u64 ((hd N:Nat):Int),.int .i64 0]/\∃L' it',st'=⟨A,false,L'⟩/\RPost A L b it N ⟨0,s,some []⟩ L' it' by
  obtain⟨v,st',h1,rfl,L',it',rfl,h2⟩:=q;exact⟨L',it',h1,h2⟩
 refine Zb6 Y ?_
 have e0:(⟨A,false,L⟩:St)=⟨A,false,L++[]⟩:=by rw[List.append_nil]
 rw[e0]
 repeat'(first|refine QW Y Y Y Y Y ?_|refine QI Y Y Y Y ?_|exact Zfs h hl 0 s [] .nils Y (fun T=>ZiC s _)|refine ruS Y ?_|refine isS Y ?_|refine ZX ?_|(refine cm0 Y Y Y ?_ ?_<;>intro _<;>try omega)|refine QD Y Y Y Y ?_|refine ZA Y Y Y (hN _) ?_|refine ZA Y Y Y (hK _) ?_)
theorem Zrt{L:List Blk}{N:ZF}(h:RHas A L b it N)(hl:N.length<700)(n:Nat)(hn:n<=15)(ks:List Kid)(hk:2<=ks.length/\ks.length<=4)(hs:∀k∈ks,KidOk n k)(hsum:(QX (ks.map Kid.m)).b<=65536)(hL:ZIM N n ks)
 {kx ver:Nat} (hr:KRef ⟨A,false,L⟩ A.length kx ver ks) (hne:kx≠b/\kx≠b+1) :
 ∃L' it',S Tb QE [.ptr A.length (b+4) 0 0 0,ndR (n+1) A.length kx ver ks.length] ⟨A,false,L⟩=some (.tup [.int .u64 ((hd N:Nat):Int),.int .i64 0],⟨A,false,L'⟩)/\RPost A L b it N ⟨n+1,[],some ks⟩ L' it':=by
 obtain⟨es,g,ge⟩:=hr
 have g0:L[kx]?=some (.arr 4 ver es):=by rw[St.get_cur]at g;exact Zfd g
 have hkl:=(List.getElem?_eq_some_iff.1 g0).1
 have hr1:∀T,KRef ⟨A,false,L++T⟩ A.length kx ver ks:=fun T=>⟨es,ZAB (by rw[jL hkl];exact g0),ge⟩
 have hr2:∀T,KRef ⟨A,false,ZGL A L b N.length++T⟩ A.length kx ver ks:=fun T=>⟨es,ZAB (by rw[jL (by rw[ZjG];exact hkl),ZjH hne];exact g0),ge⟩
 have hF:∀T,RHas A (L++T) b it N:=fun T=>h.frame (fun i h1 h2=>jL (by have:=(List.getElem?_eq_some_iff.1 h.h4).1;omega)) (fun q=>jL (List.getElem?_eq_some_iff.1 (h.hi q)).1)
 have hN:=fun T=>ZiA n hn ks hk hs hsum _ (hr1 T)
 have hK:=fun T=>Zpd (hF T).rrd (by omega) n hn ks hk.2 hL (hr1 T)
 have hE:=Zfs h hl (n+1) [] ks (.ref A.length kx ver 0 ks.length) rfl (fun T=>ZlT n ks hk.2 _ (hr2 T).allRo)
 unfold ndR at *
 suffices q:Sp Tb QE [.ptr A.length (b+4) 0 0 0,.agg [.int .i64 ((n+1:Nat):Int),.str [],.ref A.length kx ver 0 ks.length]] ⟨A,false,L⟩ fun v st'=>v=.tup [.int .u64 ((hd N:Nat):Int),.int .i64 0]/\∃L' it',st'=⟨A,false,L'⟩/\RPost A L b it N ⟨n+1,[],some ks⟩ L' it' by
  obtain⟨v,st',h1,rfl,L',it',rfl,h2⟩:=q;exact⟨L',it',h1,h2⟩
 refine Zb6 Y ?_
 have e0:(⟨A,false,L⟩:St)=⟨A,false,L++[]⟩:=by rw[List.append_nil]
 rw[e0]
 repeat'(first|refine QW Y Y Y Y Y ?_|refine QI Y Y Y Y ?_|exact hE|refine ruS Y ?_|refine isS Y ?_|refine ZX ?_|(refine cm0 Y Y Y ?_ ?_<;>intro _<;>try omega)|refine QD Y Y Y Y ?_|refine ZA Y Y Y (hN _) ?_|refine ZA Y Y Y (hK _) ?_)
section
variable {O:Orc}{k:List Fr}{Q:Qn}{e:Env}{A:List (Bool × List Blk)}{L:List Blk}{keep:List Nat}{is:List PI}{d:Nat}
theorem ZZY{a b x:Opd}{o vb ib ob:Nat}{v' y:AV}(hg:L[ix]?=some (Blk.arr w ver es))(ha:ZY e a=some (.ptr A.length ix ver i o))(hb:ZY e b=some (.ptr A.length ix vb ib ob))(hx:ZY e x=some v)(hy:es[i]?=some y)(him:imm 6 v=true)
 (hs:Zb QK (A.length+1) ⟨A,false,L⟩ v=some (v,⟨A,false,L⟩)) (hv:(Q7 w y o n v).bind YS=some v') (h:Is O is keep k Q e ⟨A,false,L.set ix (Blk.arr w ver (es.set i v'))⟩):Is O (⟨none,none,false,.w (.plain b) (.st n a x)⟩::is) keep k Q e ⟨A,false,L⟩:=by
 have hlt:ix<L.length:=by
  rw[List.getElem?_eq_some_iff]at hg;exact hg.1
 have hv':Q7 w y o n v=some v':=by
  simp only[Option.bind_eq_some_iff]at hv;obtain⟨u,h1,h2⟩:=hv;rw[h1,Yc h2]
 refine Zq (od:=none) (v:=.undef) (st':=⟨A,false,L.set ix (Blk.arr w ver (es.set i v'))⟩) ?_ h
 have hsb:ZIU (.ptr A.length ix ver i o) (.ptr A.length ix vb ib ob)=true:=by simp[ZIU]
 simp only[Zd,Zs,ZTU,ZD ha,ZD hb,ZD hx,hsb,him,and_self,if_true];simp only[evalPO,ZD ha,ZD hx,ZA7,hs,Option.bind_some,ZGM,St.get_cur,hg,vis,Xp,if_true,hy,hv',St.put,if_false,jB,if_pos hlt,ZCI]
end
def kvV(lv kx:Nat):Nat->AV
 | 0=>.nils
 | i+1=>.ref lv kx i 0 (i+1)
structure WInv(A:List (Bool × List Blk))(P:List Blk->ZF->(Nat->Prop)->Nat->Prop)(p:Nat)(L0:List Blk)(I0:Nat->Prop)(n:Nat)(N1:ZF)(ts:List Tr)(l:List Kid)(i:Nat)(L:List Blk)(N:ZF)(I:Nat->Prop)(kx:Nat):Prop where
 p:P L N I p
 le:i<=ts.length
 chain:Zfj (WrH n) N (ts.drop i) N1 (l.drop i)
 ord:Ord N
 own:∀j,I j->I0 j\/L0.length+4<=j
 old:∀j,j<L0.length->¬ I0 j->L[j]?=L0[j]?
 len:L0.length+4<=L.length
 b0:L[L0.length+0]?=some (.arr 7 0 [.agg [.int .u64 (0:Nat),.int .i64 ((n+1:Nat):Int),.int .i64 0,.int .i64 0,.int .i64 0,.str [],.lit (ts.map Tr.av)]])
 b1:L[L0.length+1]?=some (.arr 5 0 [.agg [.int .u64 0,.int .i64 0,.int .i64 0,.int .i64 0,.int .i64 0]])
 b2:L[L0.length+2]?=some (.arr 3 0 [.agg [.int .i64 ((n+1:Nat):Int),.str [],kvV A.length kx i]])
 b3:L[L0.length+3]?=some (.arr 3 0 [(QX ((l.take i).map Kid.m)).av])
 kb:i≠0->L[kx]?=some (.arr 4 (i-1) ((l.take i).map Kid.av))/\¬ I kx/\L0.length+4<=kx
theorem WInv.next{P:List Blk->ZF->(Nat->Prop)->Nat->Prop}(hA:∀ {L L' N I p},P L N I p->(∀i,I i->L'[i]?=L[i]?)->P L' N I p)(hlt:∀ {L N I p i},P L N I p->I i->i<L.length)
 {p:Nat} {L0:List Blk} {I0:Nat->Prop} (h0:∀j,I0 j->j<L0.length) {n:Nat} {N1:ZF} {ts:List Tr} {l:List Kid} {i:Nat} {L:List Blk} {N:ZF} {I:Nat->Prop} {kx:Nat} (h:WInv A P p L0 I0 n N1 ts l i L N I kx) (hi:i<ts.length)
 {k:Kid} {N2:ZF} (hd:Zfj (WrH n) N2 (ts.drop (i+1)) N1 (l.drop (i+1))) (hk:l[i]?=some k) (ho:Ord N2) {L1:List Blk} {I1:Nat->Prop} (hp:APost (fun L N I=>P L N I p) L I N2 L1 I1)
 {L3:List Blk} {kx':Nat} (hlen:L1.length<=L3.length) (hkx:(i≠0/\kx'=kx)\/(i=0/\L1.length<=kx')) (hold:∀j,j<L1.length->j≠L0.length+2->j≠L0.length+3->j≠kx'->L3[j]?=L1[j]?)
 (h2:L3[L0.length+2]?=some (.arr 3 0 [.agg [.int .i64 ((n+1:Nat):Int),.str [],kvV A.length kx' (i+1)]])) (h3:L3[L0.length+3]?=some (.arr 3 0 [(QX ((l.take (i+1)).map Kid.m)).av])) (h4:L3[kx']?=some (.arr 4 i ((l.take (i+1)).map Kid.av))) :
 WInv A P p L0 I0 n N1 ts l (i+1) L3 N2 I1 kx':=by
 have hI:∀j,I j->j<L.length:=fun j hj=>hlt h.p hj
 have own1:∀j,I1 j->I0 j\/L0.length+4<=j:=by
  intro j hj
  rcases hp.own j hj with q|q
  ·exact h.own j q
  ·have:=h.len;exact .inr (by omega)
 have hlen0:=h.len;have hlen1:=hp.len
 have nkx:¬ I1 kx':=by
  intro q;have hq:=hlt hp.p q
  rcases hkx with⟨w1,rfl⟩|⟨w1,w2⟩
  ·obtain⟨k1,k2,k3⟩:=h.kb w1
   rcases hp.own _ q with w|w
   ·exact k2 w
   ·have:=(List.getElem?_eq_some_iff.1 k1).1;omega
  ·omega
 have kge:L0.length+4<=kx':=by
  rcases hkx with⟨w1,rfl⟩|⟨w1,w2⟩
  ·exact (h.kb w1).2.2
  ·omega
 have keep:∀j,j<L0.length+2->¬ I0 j->L3[j]?=L[j]?:=by
  intro j hj hn
  rw[hold j (by omega) (by omega) (by omega) (by omega),hp.old j (by omega) (fun q=>by
   rcases h.own j q with w|w
   ·exact hn w
   ·omega)]
 have nI0:∀j,L0.length<=j->¬ I0 j:=fun j hj q=>by have:=h0 j q;omega
 refine⟨hA hp.p (fun j hj=>?_),hi,hd,ho,own1,fun j hj hn=>?_,by omega,?_,?_,h2,h3,fun _=>⟨h4,nkx,kge⟩⟩
 ·refine hold j (hlt hp.p hj) ?_ ?_ (fun q=>nkx (q▸hj))
  ·intro q;rcases own1 j hj with w|w
   ·have:=h0 j w;omega
   ·omega
  ·intro q;rcases own1 j hj with w|w
   ·have:=h0 j w;omega
   ·omega
 ·rw[keep j (by omega) hn];exact h.old j hj hn
 ·rw[keep _ (by omega) (nI0 _ (by omega))];exact h.b0
 ·rw[keep _ (by omega) (nI0 _ (by omega))];exact h.b1
theorem ZuC{a:Nat}(h:a≠b):Nat.beq a b=false:=by
 cases h':Nat.beq a b
 ·rfl
 ·exact absurd (Nat.eq_of_beq_eq_true h') h
theorem w13{k:List Fr}{Q:Qn}{L2:List Blk}{f v3 v4 v6 iv:AV}{jm rx:Nat}{mb mr ml:Int}{r:Ro}(h3:L2[jm]?=some (.arr 3 0 [.agg [.int .i64 mb,.int .i64 mr,.int .i64 ml]]))(h9:L2[rx]?=some (.arr 5 0 [r.av]))(hne:Nat.beq rx jm=false)
 (hb:0<=mb/\mb<=262144/\0<=mr/\mr<=262144/\0<=ml/\ml<=262144) (hr:0<=r.m.b/\r.m.b<=65536/\0<=r.m.r/\r.m.r<=65536/\0<=r.m.l/\r.m.l<=65536)
 (h:Rk (S Tb) k Q .norm [(0,f),(3,v3),(4,v4),(6,v6),(7,.ptr A.length jm 0 0 0),(8,iv)] ⟨A,false,L2.set jm (.arr 3 0 [.agg [.int .i64 (mb+r.m.b),.int .i64 (mr+r.m.r),.int .i64 (ml+r.m.l)]])⟩) :
 Ru (S Tb) ZAo k Q [(0,f),(3,v3),(4,v4),(6,v6),(7,.ptr A.length jm 0 0 0),(8,iv),(9,.ptr A.length rx 0 0 0)] ⟨A,false,L2⟩:=by
 have hlt:=(List.getElem?_eq_some_iff.1 h3).1;unfold Ro.av at h9
 repeat'(first|refine ZB Y h3 Y Y ?_|refine ZB Y h9 Y Y ?_|refine ZC1 Y Y hne h9 Y Y ?_|refine ZZY h3 Y Y Y Y Y Y Y ?_|refine Qp ?_|refine ZCN Y Y ?_|refine ZL Y Y (by omega) ?_)
 refine ZZY (List.getElem?_set_self hlt) Y Y Y Y Y Y Y ?_;rw[List.set_set]
 repeat'(refine ZCN Y Y ?_)
 refine Q1 (List.getElem?_set_self hlt) Y Y Y Y Y ?_;rw[List.set_set];refine Yj Y ?_;exact h
theorem ZuD{P:List Blk->ZF->(Nat->Prop)->Nat->Prop}(hA:Allocs A g P)
 (ih:∀N t N' k,WrH n N t N' k->Ord N->N'.length<=700->∀L I,P L N I p->∃L' I',S Tb Z2 [.func (.func g) [.ptr A.length p 0 0 0] [],t.av] ⟨A,false,L⟩=some (.tup [Ro.av ⟨k.at_,n,k.m⟩,.int .i64 0],⟨A,false,L'⟩)/\APost (fun L N I=>P L N I p) L I N' L' I')
 {N N':ZF} {t:Tr} {k:Kid} (hw:WrH (n+1) N t N' k) (ho:Ord N) (hl:N'.length<=700) {L:List Blk} {I:Nat->Prop} (hP:P L N I p) :
 ∃L' I',S Tb Z2 [.func (.func g) [.ptr A.length p 0 0 0] [],t.av] ⟨A,false,L⟩=some (.tup [Ro.av ⟨k.at_,n+1,k.m⟩,.int .i64 0],⟨A,false,L'⟩)/\APost (fun L N I=>P L N I p) L I N' L' I':=by
 obtain⟨ts,N1,l,rfl,hts,hn,hch,hll,hkid,hsum,hlive,rfl,rfl⟩:=hw
 have hZ:=fun st=>ZGm (.mk 0 (n+1) .zero [] (some ts)) ⟨rfl,rfl,rfl,Nat.succ_le_succ (Nat.zero_le _),by simp only[Tr.h];omega,hts.1,hts.2⟩ st
 have hM:=fun st=>ZQw [] (by decide) st
 have hlen1:N1.length<700:=by simp at hl;omega
 have hfit:∀i,(QX ((l.take i).map Kid.m)).Fit 262144:=by
  intro i
  have:=ZIJ (l:=(l.take i).map Kid.m) (fun m hm=>by obtain⟨k,hk,rfl⟩:=List.mem_map.1 hm;exact (hkid k (List.mem_of_mem_take hk)).fit)
  have hle:((l.take i).map Kid.m).length<=4:=by rw[List.length_map,List.length_take];omega
  obtain⟨a,b,c,d,e,f⟩:=this
  exact⟨a,by omega,c,by omega,e,by omega⟩
 have hlm:(ts.map Tr.av).length=ts.length:=List.length_map _
 suffices h:Sp Tb Z2 [.func (.func g) [.ptr A.length p 0 0 0] [],(Tr.mk 0 (n+1) .zero [] (some ts)).av] ⟨A,false,L⟩ fun v st'=>v=.tup [Ro.av ⟨hd N1,n+1,QX (l.map Kid.m)⟩,.int .i64 0]/\∃L' I',st'=⟨A,false,L'⟩/\APost (fun L N I=>P L N I p) L I (N1++[(hd N1,⟨n+1,[],some l⟩)]) L' I' by
  obtain⟨v,st',h1,rfl,L',I',rfl,h2⟩:=h;exact⟨L',I',h1,h2⟩
 refine Zb6 Y ?_
 have e0:∀L:List Blk,(⟨A,false,L⟩:St)=⟨A,false,L++[]⟩:=fun L=>by rw[List.append_nil]
 rw[e0];simp only[Tr.av,Tr.avO,Tr.avL_map,Mea.zero]at hZ ⊢;simp only[Zth,Mea.zero,Mea.av]at hM
 repeat'(first|refine QW Y Y Y Y Y ?_|refine QI Y Y Y Y ?_|refine QO Y Y Y Y Y Y Y ?_|refine ruS Y ?_|refine isS Y ?_|refine ZX ?_|(refine cm0 Y Y Y ?_ ?_<;>intro _<;>try omega)|refine ZZ Y Y Y ?_|refine ZA Y Y Y (hZ _) ?_|refine ZA Y Y Y (hM _) ?_)
 obtain⟨T,hT⟩:∃T:List Blk,T=[.arr 7 0 [.agg [.int .u64 (0:Nat),.int .i64 ((n+1:Nat):Int),.int .i64 0,.int .i64 0,.int .i64 0,.str [],.lit (ts.map Tr.av)]],.arr 5 0 [.agg [.int .u64 0,.int .i64 0,.int .i64 0,.int .i64 0,.int .i64 0]],.arr 3 0 [.agg [.int .i64 ((n+1:Nat):Int),.str [],.nils]],.arr 3 0 [.agg [.int .i64 0,.int .i64 0,.int .i64 0]]]:=⟨_,rfl⟩
 refine Zc (α:=Nat × List Blk × ZF × (Nat->Prop) × Nat) (fun q=>[(0,.func (.func g) [.ptr A.length p 0 0 0] []),(3,.ptr A.length (L.length+0) 0 0 0),(4,.ptr A.length (L.length+1) 0 0 0),(6,.ptr A.length (L.length+2) 0 0 0),(7,.ptr A.length (L.length+3) 0 0 0),(8,.int .i64 q.1)])
  (fun q=>⟨A,false,q.2.1⟩) (fun q=>WInv A P p L I n N1 ts l q.1 q.2.1 q.2.2.1 q.2.2.2.1 q.2.2.2.2) (fun q=>ts.length-q.1) (0,L++T,N,I,0) rfl (by rw[hT];rfl) ?_ ?_
 ·have gT:∀i,(L++T)[L.length+i]?=T[i]?:=fun i=>J4
  refine⟨hA.frame hP (fun i hi=>jL (hA.lt hP hi)),Nat.zero_le _,hch,ho,fun j hj=>.inl hj,fun j hj _=>jL hj,by rw[hT];simp,?_,?_,?_,?_,fun q=>absurd rfl q⟩
  ·rw[gT 0,hT];rfl
  ·rw[gT 1,hT];rfl
  ·rw[gT 2,hT];rfl
  ·rw[gT 3,hT];rfl
 rintro⟨i,Li,Ni,Ii,kx⟩ inv
 simp only at inv ⊢
 have b0:=inv.b0;have hle:=inv.le
 repeat'(first|refine ZB Y b0 Y Y ?_|refine Znf Y ?_|refine ruS Y ?_|refine isS Y ?_|refine rkS Y ?_|(refine cm0 Y Y Y ?_ ?_<;>intro _<;>try omega)|refine QY Y Y (by omega) ZQ (fun _ _=>?_)|refine Zk Y (ZG _) ?_)
 ·rename_i hlt t ht
  have ht':ts[i]?=some t:=by rw[show i=((i:Nat):Int).toNat by omega];exact ht
  have hlt':i<ts.length:=by omega
  have hc0:=inv.chain;rw[ZY1 ht']at hc0;obtain⟨N2,k,l1,hw,hc2,hl1⟩:=hc0
  have hk:l[i]?=some k:=by rw[<- List.head?_drop,hl1];rfl
  have hl2:l.drop (i+1)=l1:=by
   have:=ZY1 hk
   rw[hl1]at this;exact ((List.cons.inj this).2).symm
  rw[<- hl2]at hc2;have hmono:=ZUr (Zqh n) _ _ _ _ hc2;have ho2:=ZxZ _ _ _ _ _ hw inv.ord
  obtain⟨L1,I1,hS,hp⟩:=ih Ni t N2 k hw inv.ord (by omega) Li Ii inv.p
  have hI0:∀j,I j->j<L.length:=fun j hj=>hA.lt hP hj
  have hlen:=inv.len;have hlen1:=hp.len
  have own:∀c,c<4->L1[L.length+c]?=Li[L.length+c]?:=fun c hc=>hp.old _ (by omega) (fun q=>by
   rcases inv.own _ q with w|w
   ·have:=hI0 _ w;omega
   ·omega)
  have c2:=own 2 (by omega)
  rw[inv.b2]at c2
  have c3:=own 3 (by omega)
  rw[inv.b3]at c3;have hkf:=(hkid k (jM hk)).fit;obtain⟨f1,f2,f3,f4,f5,f6⟩:=hkf
  have hsum1:QX ((l.take (i+1)).map Kid.m)=(QX ((l.take i).map Kid.m)).add k.m:=by
   rw[ZU hk,List.map_append,ZQr];simp[QX,Mea.add_zero]
  obtain⟨g1,g2,g3,g4,g5,g6⟩:=hfit i
  have hnext:=fun {L3:List Blk} {kx':Nat}=>WInv.next (A:=A) (P:=P) (p:=p) hA.frame hA.lt hI0 inv hlt' hc2 hk ho2 hp (L3:=L3) (kx':=kx')
  rw[hsum1]at hnext
  generalize QX ((l.take i).map Kid.m)=m at *
  obtain⟨mb,mr,ml⟩:=m;simp only[Mea.av,Mea.add]at c3 hnext g1 g2 g3 g4 g5 g6
  refine ZA Y Y (by first|rfl|(simp only[List.nil_append,List.append_nil,List.cons_append,ZH,ZC,ZE];rfl)) hS ?_
  rw[e0]
  have c2T:=fun T=>ZAP (T:=T) c2
  have c3T:=fun T=>ZAP (T:=T) c3
  rcases i with _|i
  ·have c2N:∀T,(L1++T)[L.length+2]?=some (.arr 3 0 [.agg [.int .i64 ((n+1:Nat):Int),.str [],.nils]]):=c2T
   repeat'(first|refine QW Y Y Y Y Y ?_|refine QI Y Y Y Y ?_|refine QO Y Y Y Y Y Y Y ?_|refine ZB Y (c2N _) Y Y ?_|refine ZWz Y Y (by decide) Y Y Y ?_|refine Q1 (c2N _) Y Y Y (Qv _ (Nat.lt_succ_self _)) Y ?_|refine w13 (r:=⟨k.at_,n,k.m⟩) (mb:=mb) (mr:=mr) (ml:=ml) ?_ ?_ ?_ ⟨g1,g2,g3,g4,g5,g6⟩ ⟨f1,f2,f3,f4,f5,f6⟩ ?_|refine ruS Y ?_|refine isS Y ?_|refine rkS Y ?_|(refine cm0 Y Y Y ?_ ?_<;>intro _<;>try omega)|refine ZL Y Y (by omega) ?_|refine ZZ Y Y Y ?_|refine Zz Y Y Y Y ?_)
   ·rw[jS (by omega)];exact c3T _
   ·rw[jS (by omega),J4];rfl
   ·exact ZuC (by omega)
   ·refine⟨(1,_,N2,I1,L1.length+1),⟨rfl,rfl⟩,hnext (kx':=L1.length+1) ?_ (.inr ⟨rfl,by omega⟩) ?_ ?_ ?_ ?_,by simp only;omega⟩
    ·simp only[List.length_set,List.length_append];omega
    ·intro j j1 j2 j3 j4
     rw[jS (by omega),jS (by omega),jL j1]
    ·rw[jS (by omega),List.getElem?_set_self (by simp;omega)];rfl
    ·rw[List.getElem?_set_self (by simp;omega)]
    ·rw[jS (by omega),jS (by omega),J4]
     have:l.take 1=[k]:=by rw[ZU hk];rfl
     rw[this];rfl
  ·obtain⟨k1,k2,k3⟩:=inv.kb (by omega)
   have k1':L1[kx]?=some (.arr 4 i ((l.take (i+1)).map Kid.av)):=by
    rw[hp.old _ (List.getElem?_eq_some_iff.1 k1).1 k2];exact k1
   have kxl:=(List.getElem?_eq_some_iff.1 k1').1
   have k1T:=fun T=>ZAP (T:=T) k1'
   have ltake:((l.take (i+1)).map Kid.av).length=i+1:=by rw[List.length_map,List.length_take];omega
   have c2N:∀T,(L1++T)[L.length+2]?=some (.arr 3 0 [.agg [.int .i64 ((n+1:Nat):Int),.str [],.ref A.length kx i 0 (i+1)]]):=c2T
   repeat'(first|refine QW Y Y Y Y Y ?_|refine QI Y Y Y Y ?_|refine QO Y Y Y Y Y Y Y ?_|refine ZB Y (c2N _) Y Y ?_|refine ZDI Y Y (k1T _) ltake.symm (by omega) (by decide) Y Y ?_|refine ruS Y ?_|refine isS Y ?_|refine ZX ?_|(refine cm0 Y Y Y ?_ ?_<;>intro _<;>try omega)|refine ZZ Y Y Y ?_|refine Zz Y Y Y Y ?_)
   refine Q1 (by rw[jS (by omega)];exact c2N _) Y Y Y (Qv _ (Nat.lt_succ_self _)) Y ?_
   repeat'(first|refine w13 (r:=⟨k.at_,n,k.m⟩) (mb:=mb) (mr:=mr) (ml:=ml) ?_ ?_ ?_ ⟨g1,g2,g3,g4,g5,g6⟩ ⟨f1,f2,f3,f4,f5,f6⟩ ?_|refine Qp ?_|refine isS Y ?_|refine rkS Y ?_|refine ZL Y Y (by omega) ?_)
   ·rw[jS (by omega),jS (by omega)];exact c3T _
   ·rw[jS (by omega),jS (by omega),J4];rfl
   ·exact ZuC (by omega)
   ·refine⟨(i+1+1,_,N2,I1,kx),⟨rfl,rfl⟩,hnext (kx':=kx) ?_ (.inl ⟨by omega,rfl⟩) ?_ ?_ ?_ ?_,by simp only;omega⟩
    ·simp only[List.length_set,List.length_append];omega
    ·intro j j1 j2 j3 j4
     rw[jS (by omega),jS (by omega),jS (by omega),jL j1]
    ·rw[jS (by omega),List.getElem?_set_self (by simp;omega)];rfl
    ·rw[List.getElem?_set_self (by simp;omega)]
    ·rw[jS (by omega),jS (by omega),List.getElem?_set_self (by simp;omega),ZU hk,List.map_append];rfl
 ·have hie:i=ts.length:=by omega
  subst hie
  obtain⟨q,hq⟩:∃q,ts.length=q+1:=⟨ts.length-1,by omega⟩
  have hch2:=inv.chain;rw[List.drop_length]at hch2;obtain⟨rfl,_⟩:=hch2
  obtain⟨k1,k2,k3⟩:=inv.kb (by omega)
  have htl:l.take ts.length=l:=List.take_of_length_le (by omega)
  have b2:=inv.b2;have b3:=inv.b3;rw[htl]at k1 b3
  rw[show ts.length-1=q by omega]at k1
  have hkr:KRef ⟨A,false,Li⟩ A.length kx q l:=⟨_,ZAB k1,by rw[List.take_of_length_le (by rw[List.length_map];exact Nat.le_refl _)]⟩
  obtain⟨L2,I2,hS,hp⟩:=hA.inn n l inv.p inv.ord hlen1 hn ⟨by omega,by omega⟩ hkid hsum hlive hkr k2
  have hI0:∀j,I j->j<L.length:=fun j hj=>hA.lt hP hj
  have hlen:=inv.len;have hlen2:=hp.len
  have own:∀c,c<4->L2[L.length+c]?=Li[L.length+c]?:=fun c hc=>hp.old _ (by omega) (fun q=>by
   rcases inv.own _ q with w|w
   ·have:=hI0 _ w;omega
   ·omega)
  have q0:=own 0 (by omega)
  rw[b0]at q0
  have q1:=own 1 (by omega)
  rw[inv.b1]at q1
  have q3:=own 3 (by omega)
  rw[b3]at q3;unfold Mea.av at q3
  have b2':Li[L.length+2]?=some (.arr 3 0 [.agg [.int .i64 ((n+1:Nat):Int),.str [],.ref A.length kx q 0 l.length]]):=by
   rw[b2,hq,hll,hq];rfl
  unfold ndR at hS
  repeat'(first|refine ZB Y b2' Y Y ?_|refine ZB Y q0 Y Y ?_|refine ZB Y q3 Y Y ?_|refine Q1 q1 Y Y Y Y Y ?_|refine ruS Y ?_|refine isS Y ?_|refine rkS Y ?_|(refine cm0 Y Y Y ?_ ?_<;>intro _<;>try omega)|refine ZZ Y Y Y ?_|refine ZA Y Y Y (hS) ?_)
  refine⟨_,_,ZY0 (r:=⟨hd N1,n+1,QX (l.map Kid.m)⟩) (.inr Y) Y (List.getElem?_set_self (by omega)) Y Y,rfl,_,I2,rfl,⟨hA.frame hp.p (fun i hi=>?_),by rw[List.length_set];omega,fun i h1 h2=>?_,fun i hi=>?_⟩⟩
  ·rw[jS]
   rcases hp.own i hi with w|w
   ·rcases inv.own i w with w|w
    ·have:=hI0 _ w;omega
    ·omega
   ·omega
  ·rw[jS (by omega), hp.old i (by omega) (fun w => by
    rcases inv.own i w with w|w
    ·exact h2 w
    ·omega),inv.old i h1 h2]
  ·rcases hp.own i hi with w|w
   ·rcases inv.own i w with w|w
    ·exact .inl w
    ·exact .inr (by omega)
   ·exact .inr (by omega)
theorem ZwZ{P:List Blk->ZF->(Nat->Prop)->Nat->Prop}(hA:Allocs A g P):∀n N t N' k,WrH n N t N' k->Ord N->N'.length<=700->∀L I,P L N I p ->
 ∃L' I',S Tb Z2 [.func (.func g) [.ptr A.length p 0 0 0] [],t.av] ⟨A,false,L⟩=some (.tup [Ro.av ⟨k.at_,n,k.m⟩,.int .i64 0],⟨A,false,L'⟩)/\APost (fun L N I=>P L N I p) L I N' L' I':=by
 intro n
 induction n with
 | zero=>intro N t N' k hw ho hl L I hP;exact Zpi hA hw ho hl hP
 | succ n ih=>intro N t N' k hw ho hl L I hP;exact ZuD hA ih hw ho hl hP
def PA(A:List (Bool × List Blk))(L:List Blk)(N:ZF)(I:Nat->Prop)(p:Nat):Prop:=∃b,p=b+5/\Has ⟨A,false,L⟩ A.length b (Xb N)/\∀i,I i↔(b<=i/\i<=b+5)
def PB(A:List (Bool × List Blk))(L:List Blk)(N:ZF)(I:Nat->Prop)(p:Nat):Prop:=∃b it,p=b+4/\RHas A L b it N/\∀i,I i↔((b<=i/\i<=b+4)\/(N≠[]/\i=it))
theorem ZC4{L:List Blk}{o:Option Blk}(h:St.get ⟨A,false,L⟩ A.length i=o)(e:L'[i]?=L[i]?):St.get ⟨A,false,L'⟩ A.length i=o:=by
 rw[St.get_cur]at h ⊢;rw[e];exact h
theorem Has.frame{L:List Blk}{r:AR}(h:Has ⟨A,false,L⟩ A.length b r)(h0:∀i,b<=i->i<=b+5->L'[i]?=L[i]?):Has ⟨A,false,L'⟩ A.length b r :=
 ⟨by simp[St.wr],ZC4 h.h0 (h0 _ (by omega) (by omega)),ZC4 h.h1 (h0 _ (by omega) (by omega)),ZC4 h.h2 (h0 _ (by omega) (by omega)),ZC4 h.h3 (h0 _ (by omega) (by omega)),ZC4 h.h4 (h0 _ (by omega) (by omega)),ZC4 h.h5 (h0 _ (by omega) (by omega))⟩
theorem Has.lt{L:List Blk}{r:AR}(h:Has ⟨A,false,L⟩ A.length b r):b+5<L.length:=by
 have:=h.h5
 rw[St.get_cur]at this;exact ZdF this
theorem ZY2{L:List Blk}{s g:Nat}{r:AR}{x:Nd}:ZCq ⟨A,false,L⟩ A.length b r s g x=⟨A,false,(((L.set (b+3) ((r.take s).b3 A.length b)).set b (r.take s).b0).set (b+4) (r.alloc s g x).b4).set (b+5) ((r.alloc s g x).b5 A.length b)⟩:=by
 unfold ZCq Qr;rw[ZRK,ZRK,ZRK,ZRK]
theorem ZIO(A:List (Bool × List Blk)):Allocs A Jj (PA A):=by
 have fin:∀ {L:List Blk} {N:ZF} {I:Nat->Prop} {b:Nat} (x:Nd),Has ⟨A,false,L⟩ A.length b (Xb N)->(∀i,I i↔(b<=i/\i<=b+5))->N.length<700 ->
  APost (fun L N I=>PA A L N I (b+5)) L I (N++[(hd N,x.copy)]) ((((L.set (b+3) (((Xb N).take N.length).b3 A.length b)).set b ((Xb N).take N.length).b0).set (b+4) ((Xb N).alloc N.length 1 x).b4).set (b+5) (((Xb N).alloc N.length 1 x).b5 A.length b)) I:=by
  intro L N I b x h hI hl
  refine⟨⟨b,rfl,?_,hI⟩,by simp,fun i h1 h2=>?_,fun i hi=>.inl hi⟩
  ·have:=h.alloc N.length 1 x
   rw[ZY2]at this;rw[<- Zpe N x hl];exact this
  ·have:¬ (b<=i/\i<=b+5):=fun q=>h2 ((hI i).2 q)
   rw[jS (by omega),jS (by omega),jS (by omega),jS (by omega)]
 refine⟨?_,?_,?_,?_⟩
 ·rintro L L' N I p ⟨b,rfl,h,hI⟩ hf
  exact⟨b,rfl,h.frame (fun i h1 h2=>hf i ((hI i).2 ⟨h1,h2⟩)),hI⟩
 ·rintro L N I p i ⟨b,rfl,h,hI⟩ hi
  have:=h.lt
  have:=(hI i).1 hi
  omega
 ·rintro L N I p s ⟨b,rfl,h,hI⟩ ho hl hs
  have:=Zpa h (ZnY ho hl) s hs
  rw[ZY2]at this;exact⟨_,I,this,fin ⟨0,s,none⟩ h hI hl⟩
 ·rintro L N I p n ks kx ver ⟨b,rfl,h,hI⟩ ho hl hn hk hs hsum hL hr hne
  have:=Ztz h (ZnY ho hl) n hn ks hk hs hsum hL hr (fun q=>hne ((hI kx).2 (by omega)))
  rw[ZY2]at this;exact⟨_,I,this,fin ⟨n+1,[],some ks⟩ h hI hl⟩
theorem ZIP(A:List (Bool × List Blk)):Allocs A QE (PB A):=by
 have fin:∀ {L L':List Blk} {N:ZF} {I:Nat->Prop} {b it it':Nat} {x:Nd},RHas A L b it N->(∀i,I i↔((b<=i/\i<=b+4)\/(N≠[]/\i=it)))->RPost A L b it N x L' it' ->
  APost (fun L N I=>PB A L N I (b+4)) L I (N++[(hd N,x)]) L' (fun i=>(b<=i/\i<=b+4)\/i=it'):=by
  intro L L' N I b it it' x h hI hp
  refine⟨⟨b,it',rfl,hp.has,fun i=>⟨fun q=>?_,fun q=>?_⟩⟩,Nat.le_of_lt hp.len,fun i h1 h2=>?_,fun i hi=>?_⟩
  ·rcases q with q|q
   ·exact .inl q
   ·exact .inr ⟨by simp,q⟩
  ·rcases q with q|q
   ·exact .inl q
   ·exact .inr q.2
  ·have h3:¬ (b<=i/\i<=b+4):=fun q=>h2 ((hI i).2 (.inl q))
   refine hp.old i h1 (by omega) ?_
   by_cases q:N=[]
   ·exact .inl q
   ·exact .inr (fun w=>h2 ((hI i).2 (.inr ⟨q,w⟩)))
  ·rcases hi with q|q
   ·exact .inl ((hI i).2 (.inl q))
   ·rcases hp.it with⟨w1,w2⟩|w
    ·exact .inl ((hI i).2 (.inr ⟨w1,by omega⟩))
    ·exact .inr (by omega)
 refine⟨?_,?_,?_,?_⟩
 ·rintro L L' N I p ⟨b,it,rfl,h,hI⟩ hf
  exact⟨b,it,rfl,h.frame (fun i h1 h2=>hf i ((hI i).2 (.inl ⟨h1,h2⟩))) (fun q=>hf it ((hI it).2 (.inr ⟨q,rfl⟩))),hI⟩
 ·rintro L N I p i ⟨b,it,rfl,h,hI⟩ hi
  rcases (hI i).1 hi with q|⟨q1,q2⟩
  ·have:=(List.getElem?_eq_some_iff.1 h.h4).1;omega
  ·have:=(List.getElem?_eq_some_iff.1 (h.hi q1)).1;omega
 ·rintro L N I p s ⟨b,it,rfl,h,hI⟩ ho hl hs
  obtain⟨L',it',h1,h2⟩:=Zng h hl s hs;exact⟨L',_,h1,fin h hI h2⟩
 ·rintro L N I p n ks kx ver ⟨b,it,rfl,h,hI⟩ ho hl hn hk hs hsum hL hr hne
  have:¬ (b<=kx/\kx<=b+4):=fun q=>hne ((hI kx).2 (.inl q))
  obtain⟨L',it',h1,h2⟩:=Zrt h hl n hn ks hk hs hsum hL hr (by omega)
  exact⟨L',_,h1,fin h hI h2⟩
theorem Zpj(ht:IsEmpty t)(f:AV)(hf:weak f=f)(L:List Blk):S Tb Z2 [f,t.av] ⟨A,false,L⟩=some (.tup [Ro.zero.av,.int .i64 0],⟨A,false,L++[.arr 7 0 [t.av],.arr 5 0 [Ro.zero.av]]⟩):=by
 have hZ:=fun st=>YJ t ht st
 obtain⟨o,h,m,s,k⟩:=t;have hk:=ht.ks
 obtain⟨ka,hka,hka2⟩:∃ka,Tr.avO k=ka/\(ka=.nils\/ka=.lit []):=by
  cases k with
  | none=>exact⟨_,rfl,.inl Y⟩
  | some l=>have:l=[]:=hk;subst this;exact⟨_,rfl,.inr Y⟩
 refine ZXL Y ?_
 have e0:∀L:List Blk,(⟨A,false,L⟩:St)=⟨A,false,L++[]⟩:=fun L=>by rw[List.append_nil]
 rw[e0 L]
 simp only[Tr.av,hka]at *
 rcases hka2 with rfl|rfl
 all_goals repeat'(first|refine QW Y Y Y Y Y ?_|refine QI Y Y Y Y ?_|refine QO Y Y Y Y Y Y Y ?_|refine ruS Y ?_|refine isS Y ?_|refine rkS Y ?_|refine ZZ Y Y Y ?_|refine ZA Y Y Y (hZ _) ?_)
 all_goals refine ZY0 (r:=Ro.zero) (ix:=L.length+1) (ver:=0) (.inr Y) Y ?_ Y Y
 all_goals rw[J4]
 all_goals rfl
def RootOk(N:ZF)(r:Ro):Prop:=r=.zero\/∃x,lk N r.at_=some x/\NdOk x/\r.at_≠0/\x.h=r.h/\x.mea=r.m
theorem RootOk.mono{N T:ZF}{r:Ro}(h:RootOk N r):RootOk (N++T) r:=by
 rcases h with h|⟨x,h1,h2⟩
 ·exact .inl h
 ·exact .inr ⟨x,ZcB h1,h2⟩
theorem Zru(ht:VE [] t){N:ZF}(hN:GoodN N)(ho:Ord N)(hb:4*(N.length:Int)+t.bytes+4<=2800):
 ∃N' r T,N'=N++T/\GoodN N'/\Ord N'/\RootOk N' r/\r.m.b=t.bytes/\4*(N'.length:Int)<=4*N.length+t.bytes+4 /\
  ∀(A:List (Bool × List Blk)) (g:FuncId) (P:List Blk->ZF->(Nat->Prop)->Nat->Prop),Allocs A g P->∀L I p,P L N I p ->
   ∃L' I',S Tb Z2 [.func (.func g) [.ptr A.length p 0 0 0] [],t.av] ⟨A,false,L⟩=some (.tup [r.av,.int .i64 0],⟨A,false,L'⟩)/\APost (fun L N I=>P L N I p) L I N' L' I':=by
 rcases ht with ht|hv
 ·refine⟨N,.zero,[],by simp,hN,ho,.inl Y,ht.bytes.symm,by rw[ht.bytes];omega,fun A g P hA L I p hP=>?_⟩
  refine⟨_,I,Zpj ht _ Y L,hA.frame hP (fun i hi=>jL (hA.lt hP hi)),by simp,fun i h1 _=>jL h1,fun i hi=>.inl hi⟩
 ·obtain⟨N',k,T,w⟩:=Zxw t.h t hv rfl N hN ho (by omega)
  have hf:=w.few
  have hlen:N'.length=N.length+T.length:=by rw[w.app,List.length_append]
  obtain⟨y,y1,y2,y3,y4⟩:=w.live
  refine⟨N',⟨k.at_,t.h,k.m⟩,T,w.app,w.good,w.ord,.inr ⟨y,y1,y2,?_,y3,y4⟩,w.bytes,by omega,fun A g P hA L I p hP=>?_⟩
  ·intro q;exact absurd w.hnd.2.1 (by simp only at q;rw[q];decide)
  ·exact ZwZ hA t.h N t N' k w.wr ho (by omega) L I hP
def rvV(lv kx:Nat):List Ro->AV
 | []=>.nils
 | r::rs=>.ref lv kx rs.length 0 (rs.length+1)
structure LInv(A:List (Bool × List Blk))(L0:List Blk)(texts:List B8)(i:Nat)(L:List Blk)(N:ZF)(Ia Ib:Nat->Prop)(rs:List Ro)(kx:Nat):Prop where
 pa:PA A L N Ia (L0.length+6)
 pb:PB A L N Ib (L0.length+11)
 dis:∀j,Ia j->¬ Ib j
 good:GoodN N
 ord:Ord N
 le:i<=texts.length
 few:4*N.length<=((texts.take i).map List.length).sum+4*i
 rlen:rs.length=i
 roots:∀r∈rs,RootOk N r
 rb:∀(j:Nat) (r:Ro) (s:B8),rs[j]?=some r->texts[j]?=some s->r.m.b=s.length
 owna:∀j,Ia j->L0.length+1<=j/\j≠L0.length+12
 ownb:∀j,Ib j->L0.length+1<=j/\j≠L0.length+12
 old:∀j,j<L0.length->L[j]?=L0[j]?
 len:L0.length+13<=L.length
 b2:L[L0.length+0]?=some (.arr 3 0 [.agg [.nilptr,.nilptr,.nils]])
 b8:L[L0.length+12]?=some (.arr 3 0 [.agg [.ptr A.length (L0.length+6) 0 0 0,.ptr A.length (L0.length+11) 0 0 0,rvV A.length kx rs]])
 kb:rs≠[]->L[kx]?=some (.arr 5 (rs.length-1) (rs.map Ro.av))/\¬ Ia kx/\¬ Ib kx/\L0.length+13<=kx
theorem Zwv(r:Ro):eqV [(0,0),(1,0),(2,0),(3,0),(4,0)] 0 r.av r.av=some true:=by
 show (if decide ((r.at_:Int)=r.at_)=true then (if decide ((r.h:Int)=r.h)=true then (if decide (r.m.b=r.m.b)=true then (if decide (r.m.r=r.m.r)=true then (if decide (r.m.l=r.m.l)=true then some true else some false) else some false) else some false) else some false) else some false)=_
 simp
theorem ZY3{lv:Nat}(st:St)(h:lv<b):Zb QK b st (.agg [.ptr lv i 0 0 0,.ptr lv j 0 0 0,.nils])=some (.agg [.ptr lv i 0 0 0,.ptr lv j 0 0 0,.nils],st):=by
 simp only[Zb,QK,mapSt,keepN,Xo,Option.bind_some,if_pos h,ZBv,Zf3,jB,if_false,if_true]
theorem Zft{lv kx:Nat}(st:St)(h:lv<b):Zb QK b st (.agg [.ptr lv i 0 0 0,.ptr lv j 0 0 0,.ref lv kx w 0 n])=some (.agg [.ptr lv i 0 0 0,.ptr lv j 0 0 0,.ref lv kx w 0 n],st):=by
 simp only[Zb,QK,mapSt,keepN,Xo,Option.bind_some,if_pos h,ZBv,Zf3,jB,if_false,if_true]
theorem ZjI{L:List Blk}{x:Ex}{c:Nat}{u1 u2 u3 y:AV}(hx:x=.norm\/x=.ret)(hb:JV e b=some (.ptr A.length ix ver 0 0))(hg:L[ix]?=some (.arr 3 ver [.agg [u1,u2,u3]]))(hc:JV e c=some y)(hu:.tup [.agg [u1,u2,u3],y]=u):Jp true [.c b true 3,.s c] (x,e,⟨A,false,L⟩)=some (u,⟨A,false,L⟩):=by
 subst hu
 have h1:ZCJ ⟨A,false,L⟩ e (.c b true 3)=some (.agg [u1,u2,u3]):=by
  simp only[ZCJ,Z9 hb,loadP,St.get_cur,hg,vis,ZGp,if_true,List.getElem?_cons_zero,Option.bind_some];rfl
 have h2:Qo ⟨A,false,L⟩ e [.c b true 3,.s c]=some (.tup [.agg [u1,u2,u3],y]):=by
  simp only[Qo,ZC8,h1,Option.bind_some];simp only[ZCJ,Z9 hc,Option.bind_some,Option.map_some,ZGq]
 rcases hx with rfl|rfl<;>simp only[Jp,h2,Option.bind_some,if_true,Qe]
theorem LInv.next{L0:List Blk}{texts:List B8}{L:List Blk}{N:ZF}{Ia Ib:Nat->Prop}{rs:List Ro}{kx:Nat}(inv:LInv A L0 texts i L N Ia Ib rs kx){s:B8}(hs:texts[i]?=some s)
 {N' T:ZF} {r:Ro} (happ:N'=N++T) (hgood:GoodN N') (hord:Ord N') (rok:RootOk N' r) (rb:r.m.b=s.length) (few:4*(N'.length:Int)<=4*N.length+s.length+4)
 {L1 L2 L3:List Blk} {Ia' Ib':Nat->Prop} {b10 b11:Blk} (ha:APost (fun L N I=>PA A L N I (L0.length+6)) (L++[b10]) Ia N' L1 Ia') (hb:APost (fun L N I=>PB A L N I (L0.length+11)) (L1++[b11]) Ib N' L2 Ib')
 {kx':Nat} (hlen:L2.length<=L3.length) (hkx:(rs≠[]/\kx'=kx)\/(rs=[]/\L2.length<=kx')) (hold:∀j,j<L2.length->j≠L0.length+12->j≠kx'->L3[j]?=L2[j]?)
 (h8:L3[L0.length+12]?=some (.arr 3 0 [.agg [.ptr A.length (L0.length+6) 0 0 0,.ptr A.length (L0.length+11) 0 0 0,rvV A.length kx' (rs++[r])]])) (hkb:L3[kx']?=some (.arr 5 rs.length ((rs++[r]).map Ro.av))) :
 LInv A L0 texts (i+1) L3 N' Ia' Ib' (rs++[r]) kx':=by
 have hil:=(List.getElem?_eq_some_iff.1 hs).1;have l1:=ha.len;have l2:=hb.len;rw[List.length_append,List.length_singleton]at l1 l2;have len:=inv.len
 have ltA:∀j,Ia j->j<L.length:=fun j h=>(ZIO A).lt inv.pa h
 have ltB:∀j,Ib j->j<L.length:=fun j h=>(ZIP A).lt inv.pb h
 have ltA':∀j,Ia' j->j<L1.length:=fun j h=>(ZIO A).lt ha.p h
 have ltB':∀j,Ib' j->j<L2.length:=fun j h=>(ZIP A).lt hb.p h
 have ownA:∀j,Ia' j->Ia j\/L.length+1<=j:=fun j h=>by have:=ha.own j h;rw[List.length_append,List.length_singleton]at this;exact this
 have ownB:∀j,Ib' j->Ib j\/L1.length+1<=j:=fun j h=>by have:=hb.own j h;rw[List.length_append,List.length_singleton]at this;exact this
 have nAB:∀j,Ia' j->¬ Ib j:=fun j h q=>by
  rcases ownA j h with w|w
  ·exact inv.dis j w q
  ·have:=ltB j q;omega
 have kx1:¬ Ia' kx'/\¬ Ib' kx'/\L0.length+13<=kx':=by
  rcases hkx with⟨w,rfl⟩|⟨w,w2⟩
  ·obtain⟨k1,k2,k3,k4⟩:=inv.kb w
   have:=(List.getElem?_eq_some_iff.1 k1).1
   refine⟨fun q=>?_,fun q=>?_,k4⟩
   ·rcases ownA _ q with w|w
    ·exact k2 w
    ·omega
   ·rcases ownB _ q with w|w
    ·exact k3 w
    ·omega
  ·refine⟨fun q=>?_,fun q=>?_,by omega⟩
   ·have:=ltA' _ q;omega
   ·have:=ltB' _ q;omega
 have oA:∀j,Ia' j->L0.length+1<=j/\j≠L0.length+12:=fun j h=>by
  rcases ownA j h with w|w
  ·exact inv.owna j w
  ·omega
 have oB:∀j,Ib' j->L0.length+1<=j/\j≠L0.length+12:=fun j h=>by
  rcases ownB j h with w|w
  ·exact inv.ownb j w
  ·omega
 have e21:∀j,j<L1.length->¬ Ib j->L2[j]?=L1[j]?:=fun j h1 h2=>by
  rw[hb.old j (by rw[List.length_append];omega) h2,jL h1]
 have e10:∀j,j<L.length->¬ Ia j->L1[j]?=L[j]?:=fun j h1 h2=>by
  rw[ha.old j (by rw[List.length_append];omega) h2,jL h1]
 have e30:∀j,j<L0.length+1->L3[j]?=L[j]?:=fun j hj=>by
  have nb:¬ Ib j:=fun q=>by have:=inv.ownb j q;omega
  have na:¬ Ia j:=fun q=>by have:=inv.owna j q;omega
  rw[hold j (by omega) (by omega) (by omega),e21 j (by omega) nb,e10 j (by omega) na]
 refine⟨(ZIO A).frame ha.p (fun j hj=>?_),(ZIP A).frame hb.p (fun j hj=>hold j (ltB' j hj) (oB j hj).2 (fun q=>kx1.2.1 (q▸hj))),fun j h1 h2=>?_,hgood,hord,hil,?_,by simp[inv.rlen],fun q hq=>?_,fun j q s' hj hs'=>?_,oA,oB,fun j hj=>by rw[e30 j (by omega)];exact inv.old j hj,by omega,by rw[e30 _ (by omega)];exact inv.b2,h8,fun _=>⟨?_,kx1⟩⟩
 ·rw[hold j (by have:=ltA' j hj;omega) (oA j hj).2 (fun q=>kx1.1 (q▸hj)),e21 j (ltA' j hj) (nAB j hj)]
 ·rcases ownB j h2 with w|w
  ·exact nAB j h1 w
  ·have:=ltA' j h1;omega
 ·have:=inv.few
  rw[ZU hs,List.map_append,List.sum_append];simp only[jC,List.map_nil,List.sum_cons,List.sum_nil];omega
 ·rcases List.mem_append.1 hq with w|w
  ·rw[happ];exact (inv.roots q w).mono
  ·rw[List.mem_singleton]at w;rw[w];exact rok
 ·rcases Nat.lt_or_ge j rs.length with w|w
  ·rw[jL w]at hj
   exact inv.rb j q s' hj hs'
  ·have : j = rs.length := by
    have:=(List.getElem?_eq_some_iff.1 hj).1
    simp at this;omega
   subst this;rw[List.getElem?_append_right (Nat.le_refl _),Nat.sub_self]at hj;have hrl:=inv.rlen;rw[hrl,hs]at hs';have e1:=Option.some.inj hs'
   have e2:r=q:=by simpa using hj
   rw[<- e1,<- e2];exact rb
 ·rw[hkb];simp
theorem Zxx(texts:List B8)(h4:texts.length<=4)(h9:(texts.map List.length).sum<=900)(A:List (Bool × List Blk))(L0:List Blk):
 Sp Tb XE [.lit (texts.map .str)] ⟨A,false,L0⟩ fun v st'=>∃L N Ia Ib rs kx,LInv A L0 texts texts.length L N Ia Ib rs kx/\v=.tup [.agg [.ptr A.length (L0.length+6) 0 0 0,.ptr A.length (L0.length+11) 0 0 0,rvV A.length kx rs],.bool true]/\∃X,st'=⟨A,false,L.set (L0.length+0) X⟩:=by
 obtain⟨L6,hN,l6,h6,o6⟩:∃L6,S Tb ZF5 [.int .i64 700,.int .u64 3] ⟨A,false,L0++[.arr 3 0 [.agg [.nilptr,.nilptr,.nils]]]⟩=some (.tup [.ptr A.length (L0.length+6) 0 0 0,.int .i64 0],⟨A,false,L6⟩)/\L6.length=L0.length+7/\Has ⟨A,false,L6⟩ A.length (L0.length+1) (Xb []) /\
  ∀j,j<L0.length+1->L6[j]?=(L0++[.arr 3 0 [.agg [.nilptr,.nilptr,.nils]]])[j]?:=by
  have hN:=ZwL 700 3 ⟨by decide,by decide⟩ ⟨by decide,by decide⟩ A (L0++[.arr 3 0 [.agg [.nilptr,.nilptr,.nils]]])
  have hh:=Zrh 700 3 A (L0++[.arr 3 0 [.agg [.nilptr,.nilptr,.nils]]]) []
  have el:(L0++[Blk.arr 3 0 [.agg [.nilptr,.nilptr,.nils]]]).length=L0.length+1:=by simp
  rw[el]at hN hh;rw[List.append_nil]at hh
  exact⟨_,hN,by simp,by rw[Zt2];exact hh,fun j hj=>jL (by rw[el];exact hj)⟩
 obtain⟨L11,hR,l11,h11,o11⟩:∃L11,S Tb XF [.int .i64 700,.int .u64 3] ⟨A,false,L6⟩=some (.tup [.ptr A.length (L0.length+11) 0 0 0,.int .i64 0],⟨A,false,L11⟩)/\L11.length=L0.length+12/\RHas A L11 (L0.length+7) 0 [] /\
  ∀j,j<L6.length->L11[j]?=L6[j]?:=by
  have hR:=ZxY A L6;rw[l6]at hR
  have g:=fun i=>J4 (L0:=L6) (T:=[r0 A.length (L0.length+7) 0,r1 0,r2,r3,r4 A.length (L0.length+7) 0 []]) (i:=i)
  rw[l6]at g
  exact⟨_,hR,by rw[List.length_append,l6];rfl,⟨g 0,g 1,g 2,g 3,g 4,fun q=>absurd rfl q,fun q=>absurd rfl q⟩,fun j hj=>jL hj⟩
 have hst:∀j,j<L0.length+1->L11[j]?=(L0++[.arr 3 0 [.agg [.nilptr,.nilptr,.nils]]])[j]?:=fun j hj=>by rw[o11 j (by omega),o6 j hj]
 have h6':Has ⟨A,false,L11⟩ A.length (L0.length+1) (Xb []):=h6.frame (fun i h1 h2=>o11 i (by omega))
 clear o11 o6 h6;refine Zb6 Y ?_
 repeat'(first|refine ruS Y ?_|refine isS Y ?_|refine ZX ?_|refine ZZ Y Y Y ?_|refine Za Y Y Y ?_|refine ZA Y Y Y (hN) ?_|refine ZA Y Y Y (hR) ?_)
 refine J5 Y Y Y (ZY3 _ (Nat.lt_succ_self _)) Y Y ?_;rw[l11]
 repeat'(first|refine ruS Y ?_|refine isS Y ?_|refine ZX ?_|(refine cm0 Y Y Y ?_ ?_<;>intro _<;>try omega)|refine QD Y Y Y Y ?_)
 refine Zc (α:=Nat × List Blk × ZF × (Nat->Prop) × (Nat->Prop) × List Ro × Nat) (fun q=>[(0,.lit (texts.map .str)),(2,.ptr A.length (L0.length+0) 0 0 0),(4,.ptr A.length (L0.length+6) 0 0 0),(6,.ptr A.length (L0.length+11) 0 0 0),(8,.ptr A.length (L0.length+12) 0 0 0),(9,.int .i64 q.1)])
  (fun q=>⟨A,false,q.2.1⟩) (fun q=>LInv A L0 texts q.1 q.2.1 q.2.2.1 q.2.2.2.1 q.2.2.2.2.1 q.2.2.2.2.2.1 q.2.2.2.2.2.2) (fun q=>texts.length-q.1)
  (0,L11++[.arr 3 0 [.agg [.ptr A.length (L0.length+6) 0 0 0,.ptr A.length (L0.length+11) 0 0 0,.nils]]],[],(fun j=>L0.length+1<=j/\j<=L0.length+6),(fun j=>L0.length+7<=j/\j<=L0.length+11),[],0) rfl rfl ?_ ?_
 ·have hle:∀j,j<L0.length+12->(L11++[Blk.arr 3 0 [.agg [.ptr A.length (L0.length+6) 0 0 0,.ptr A.length (L0.length+11) 0 0 0,.nils]]])[j]?=L11[j]?:=fun j hj=>jL (by omega)
  refine⟨⟨L0.length+1,rfl,h6'.frame (fun i h1 h2=>hle i (by omega)),fun i=>⟨fun q=>by simp only at q;omega,fun q=>by simp only;omega⟩⟩,⟨L0.length+7,0,rfl,h11.frame (fun i h1 h2=>hle i (by omega)) (fun q=>absurd rfl q),fun i=>⟨fun q=>.inl (by simp only at q;omega),fun q=>?_⟩⟩,
   fun j h1 h2=>by simp only at h1 h2;omega,ZWx,ZwR,Nat.zero_le _,by simp,rfl,fun r hr=>by simp at hr,fun j r s hr=>by simp at hr,fun j hj=>by simp only at hj;omega,fun j hj=>by simp only at hj;omega,fun j hj=>?_,by simp;omega,?_,?_,fun q=>absurd rfl q⟩
  ·rcases q with q|q
   ·simp only;omega
   ·exact absurd Y q.1
  ·simp only;rw[hle j (by omega),hst j (by omega),jL hj]
  ·simp only;rw[hle _ (by omega),hst _ (by omega),J4];rfl
  ·simp only
   have:=J4 (L0:=L11) (T:=[Blk.arr 3 0 [.agg [.ptr A.length (L0.length+6) 0 0 0,.ptr A.length (L0.length+11) 0 0 0,.nils]]]) (i:=0)
   rw[l11]at this;rw[this];rfl
 rintro⟨i,L,N,Ia,Ib,rs,kx⟩ inv
 simp only at inv ⊢
 have hle:=inv.le
 repeat'(first|refine Znf Y ?_|refine ruS Y ?_|refine isS Y ?_|refine rkS Y ?_|refine Zk Y Y ?_|refine QY Y Y (by omega) (fun _=>rfl) (fun _ _=>?_)|(refine cm0 Y Y Y ?_ ?_<;>intro _<;>try omega))
 ·rename_i hlt s hs'
  have hs:texts[i]?=some s:=by rw[show i=((i:Nat):Int).toNat by omega];exact hs'
  have hsum:((texts.take i).map List.length).sum+s.length<=900:=by
   have e1:texts.map List.length=(texts.take (i+1)).map List.length++(texts.drop (i+1)).map List.length:=by rw[<- List.map_append,List.take_append_drop]
   rw[e1,List.sum_append,ZU hs,List.map_append,List.sum_append]at h9;simp only[jC,List.map_nil,List.sum_cons,List.sum_nil]at h9;omega
  have few:=inv.few
  obtain⟨hve,htx,hby⟩:=ZIL ZWx (s:=s) (by omega)
  have hBu:=fun st=>ZUq ZWx s (by omega) st
  generalize Xt s=t at *
  obtain⟨N',r,T,happ,hgood,hord,rok,rb,hfew,hW⟩:=Zru hve inv.good inv.ord (by rw[hby];omega)
  rw[hby]at rb hfew;have len:=inv.len
  have ltA:∀j,Ia j->j<L.length:=fun j h=>(ZIO A).lt inv.pa h
  have ltB:∀j,Ib j->j<L.length:=fun j h=>(ZIP A).lt inv.pb h
  obtain⟨L1,Ia',hSa,ha⟩:=hW A _ _ (ZIO A) (L++[.arr 7 0 [t.av]]) Ia _ ((ZIO A).frame inv.pa (fun j hj=>jL (ltA j hj)))
  have l1:=ha.len;rw[List.length_append,List.length_singleton]at l1
  have e10:∀j,j<L.length+1->¬ Ia j->L1[j]?=(L++[.arr 7 0 [t.av]])[j]?:=fun j h1 h2=>ha.old j (by rw[List.length_append];exact h1) h2
  obtain⟨L2,Ib',hSb,hb⟩:=hW A _ _ (ZIP A) (L1++[.arr 5 0 [r.av]]) Ib _ ((ZIP A).frame inv.pb (fun j hj=>by
   have:=ltB j hj
   rw[jL (by omega),e10 j (by omega) (fun q=>inv.dis j q hj),jL this]))
  have l2:=hb.len;rw[List.length_append,List.length_singleton]at l2
  have e21:∀j,j<L1.length+1->¬ Ib j->L2[j]?=(L1++[.arr 5 0 [r.av]])[j]?:=fun j h1 h2=>hb.old j (by rw[List.length_append];exact h1) h2
  have q10:∀T,(L1++T)[L.length+0]?=some (.arr 7 0 [t.av]):=fun T=>ZAP (by
   rw[e10 _ (by omega) (fun q=>by have:=ltA _ q;omega),J4];rfl)
  have q11:∀T,(L2++T)[L1.length+0]?=some (.arr 5 0 [r.av]):=fun T=>ZAP (by
   rw[e21 _ (by omega) (fun q=>by have:=ltB _ q;omega),J4];rfl)
  have q8:∀T,(L2++T)[L0.length+12]?=some (.arr 3 0 [.agg [.ptr A.length (L0.length+6) 0 0 0,.ptr A.length (L0.length+11) 0 0 0,rvV A.length kx rs]]):=fun T=>ZAP (by
   rw[e21 _ (by omega) (fun q=>(inv.ownb _ q).2 rfl),jL (by omega),e10 _ (by omega) (fun q=>(inv.owna _ q).2 rfl),jL (by omega)];exact inv.b8)
  have hnext:=fun {L3:List Blk} {kx':Nat}=>inv.next hs happ hgood hord rok rb hfew ha hb (L3:=L3) (kx':=kx')
  have hro:=ZRI r
  have e0:∀L:List Blk,(⟨A,false,L⟩:St)=⟨A,false,L++[]⟩:=fun L=>by rw[List.append_nil]
  refine ZA Y Y Y (hBu _) ?_;rw[e0 L]
  repeat'(first|refine QW Y Y Y Y Y ?_|refine QO Y Y Y Y (Zn _ _ _) (Zx _ _) Y ?_|refine QI Y Y Y (ZG _) ?_|refine ruS Y ?_|refine isS Y ?_|refine ZX ?_|refine ZOL Y Y ?_)
  refine ZA Y Y (by first|rfl|(simp only[List.nil_append,List.append_nil,List.cons_append,ZH,ZC,ZE];rfl)) hSa ?_
  rw[e0 L1]
  repeat'(first|refine QW Y Y Y Y Y ?_|refine QO Y Y Y Y Y Y Y ?_|refine ZB Y (q10 _) Y (ZG _) ?_|refine ruS Y ?_|refine isS Y ?_|refine ZX ?_|refine ZOL Y Y ?_)
  refine ZA Y Y (by first|rfl|(simp only[List.nil_append,List.append_nil,List.cons_append,ZH,ZC,ZE];rfl)) hSb ?_
  rw[e0 L2]
  rcases rs with _|⟨r1,rs⟩
  ·have q8':∀T,(L2++T)[L0.length+12]?=some (.arr 3 0 [.agg [.ptr A.length (L0.length+6) 0 0 0,.ptr A.length (L0.length+11) 0 0 0,.nils]]):=q8
   repeat'(first|refine QW Y Y Y Y Y ?_|refine QO Y Y Y Y Y Y Y ?_|refine ZB Y (q11 _) Y hro ?_|refine QI Y Y Y hro ?_|refine QD Y Y (Zwv r) Y ?_|refine ZB Y (q8' _) Y Y ?_|refine ZWz Y Y (by decide) Y Y Y ?_|refine ruS Y ?_|refine isS Y ?_|refine ZX ?_|(refine cm0 Y Y Y ?_ ?_<;>intro _<;>try omega)|refine Zz Y Y Y Y ?_)
   refine Q1 (q8' _) Y Y Y (Qv _ (Nat.lt_succ_self _)) Y ?_
   repeat'(first|refine Qp ?_|refine isS Y ?_|refine rkS Y ?_|refine ZL Y Y (by omega) ?_)
   refine⟨(i+1,_,N',Ia',Ib',[r],L2.length+1),⟨rfl,rfl⟩,hnext (kx':=L2.length+1) ?_ (.inr ⟨rfl,by omega⟩) ?_ ?_ ?_,by simp only;omega⟩
   ·simp only[List.length_set,List.length_append];omega
   ·intro j j1 j2 j3
    rw[jS (by omega),jL j1]
   ·rw[List.getElem?_set_self (by simp;omega)];rfl
   ·rw[jS (by omega),J4];rfl
  ·obtain⟨k1,k2,k3,k4⟩:=inv.kb (by simp)
   have kl:=(List.getElem?_eq_some_iff.1 k1).1
   have k1T:∀T,(L2++T)[kx]?=some (.arr 5 rs.length ((r1::rs).map Ro.av)):=fun T=>ZAP (by
    rw[e21 _ (by omega) k3,jL (by omega),e10 _ (by omega) k2,jL kl];exact k1)
   have kxl:kx<L2.length:=by omega
   have hrl:=inv.rlen
   have hr1:rs.length+1=((r1::rs).map Ro.av).length:=by simp
   have hr2:((r1::rs).map Ro.av).length+1<4294967296:=by simp at hrl ⊢;omega
   have q8':∀T,(L2++T)[L0.length+12]?=some (.arr 3 0 [.agg [.ptr A.length (L0.length+6) 0 0 0,.ptr A.length (L0.length+11) 0 0 0,.ref A.length kx rs.length 0 (rs.length+1)]]):=q8
   repeat'(first|refine QW Y Y Y Y Y ?_|refine QO Y Y Y Y Y Y Y ?_|refine ZB Y (q11 _) Y hro ?_|refine QI Y Y Y hro ?_|refine QD Y Y (Zwv r) Y ?_|refine ZB Y (q8' _) Y Y ?_|refine ZDI Y Y (k1T _) hr1 hr2 (by decide) Y Y ?_|refine ruS Y ?_|refine isS Y ?_|refine ZX ?_|(refine cm0 Y Y Y ?_ ?_<;>intro _<;>try omega)|refine Zz Y Y Y Y ?_)
   refine Q1 (by rw[jS (by omega)];exact q8' _) Y Y Y (Qv _ (Nat.lt_succ_self _)) Y ?_
   repeat'(first|refine Qp ?_|refine isS Y ?_|refine rkS Y ?_|refine ZL Y Y (by omega) ?_)
   refine⟨(i+1,_,N',Ia',Ib',r1::rs++[r],kx),⟨rfl,rfl⟩,hnext (kx':=kx) ?_ (.inl ⟨by simp,rfl⟩) ?_ ?_ ?_,by simp only;omega⟩
   ·simp only[List.length_set,List.length_append];omega
   ·intro j j1 j2 j3
    rw[jS (by omega),jS (by omega),jL j1]
   ·rw[List.getElem?_set_self (by simp;omega)]
    simp only[rvV,List.cons_append,List.length_append,List.length_cons,List.length_nil];rfl
   ·rw[jS (by omega),List.getElem?_set_self (by simp;omega),List.map_append];rfl
 ·obtain rfl:i=texts.length:=by omega
  have b2:=inv.b2;have b8:=inv.b8;have hl:=(List.getElem?_eq_some_iff.1 b2).1
  rcases rs with _|⟨r1,rs⟩
  ·unfold rvV at b8
   repeat'(first|refine ZB Y b8 Y Y ?_|refine Q1 b2 Y Y Y (ZY3 _ (Nat.lt_succ_self _)) Y ?_|refine isS Y ?_|refine rkS Y ?_|refine Jq ?_)
   exact⟨_,_,ZjI (.inr Y) Y (List.getElem?_set_self hl) Y Y,L,N,Ia,Ib,[],kx,inv,rfl,_,rfl⟩
  ·unfold rvV at b8
   repeat'(first|refine ZB Y b8 Y Y ?_|refine Q1 b2 Y Y Y (Zft _ (Nat.lt_succ_self _)) Y ?_|refine isS Y ?_|refine rkS Y ?_|refine Jq ?_)
   exact⟨_,_,ZjI (.inr Y) Y (List.getElem?_set_self hl) Y Y,L,N,Ia,Ib,r1::rs,kx,inv,rfl,_,rfl⟩
theorem Zpk{N:ZF}(hN:GoodN N)(hl:N.length<4294967296){lv:Nat}(hr:RRd st lv ix N){y:Tr}(hx:Val N x)(hy:Val N y)(hb:x.bytes+y.bytes<=65536):
 S Tb JE [.ptr lv ix 0 0 0,x.av,y.av] st=some (.tup [.lit ((QV N (x.h+y.h) x y).map Tr.av),.int .i64 0],st):=by
 refine Zj Y (fun A hA=>?_)
 have hrp:=fun L=>hr.push hA (ro:=false) (L:=L)
 have n1:=hx.pos.2;have n2:=hy.pos.2
 have hP:=fun L=>ZRH hl (hrp L) (.inr hx) (.inr hy) (by omega) (by omega)
 have hB1:=fun st=>Q3 (.inr hx) (by omega) st
 have hB2:=fun st=>Q3 (.inr hy) (by omega) st
 have hZ1:=fun st=>ZAa hx st
 have hZ2:=fun st=>ZAa hy st
 have hM:=fun L=>Znb hN hl (hrp L) hx hy (by omega) (by omega)
 generalize QV N (x.h+y.h) x y=z at *
 repeat'(first|refine ruS Y ?_|refine isS Y ?_|refine rkS Y ?_|(refine cm0 Y Y Y ?_ ?_<;>intro _<;>try omega)|(refine cm0 Y Y Y ?_ ?_<;>intro _<;>try omega)|refine ZL Y Y (by omega) ?_|refine Z5 Y Y (ZG _) ?_|refine ZB Y Y Y (ZG _) ?_|refine Za Y (ZQ _) (Zg _) ?_|refine ZA Y Y (by first|rfl|(simp only[List.nil_append,List.append_nil,List.cons_append,ZH,ZC,ZE];first|done|rfl)) (hP _) ?_|refine ZA Y Y (by first|rfl|(simp only[List.nil_append,List.append_nil,List.cons_append,ZH,ZC,ZE];first|done|rfl)) (hZ1 _) ?_|refine ZA Y Y (by first|rfl|(simp only[List.nil_append,List.append_nil,List.cons_append,ZH,ZC,ZE];first|done|rfl)) (hZ2 _) ?_|refine Zw Y Y (wk1 _) (hB1 _) ?_|refine ZA Y Y (by first|rfl|(simp only[List.nil_append,List.append_nil,List.cons_append,ZH,ZC,ZE];first|done|rfl)) (hB2 _) ?_|refine YT Y Y (Zrq _ _ _ _) (hM _) ?_)
 all_goals try first|contradiction|omega
 all_goals refine ZO hA (by simp) Y Y Y Y ?_
 all_goals rfl
theorem Znh{N:ZF}(hl:N.length<4294967296){lv:Nat}(hr:RRd st lv ix N){y:Tr}(hx:IsEmpty x)(hy:VE N y)(hb:y.bytes<=65536):
 S Tb JE [.ptr lv ix 0 0 0,x.av,y.av] st=some (.tup [.lit [],.int .i64 2],st):=by
 refine Zj Y (fun A hA=>?_)
 have hP:=fun L=>ZRH hl (hr.push hA (ro:=false) (L:=L)) (.inl hx) hy (by rw[hx.bytes];omega) hb
 have hZ1:=fun st=>YJ x hx st
 repeat'(first|refine ruS Y ?_|refine isS Y ?_|refine rkS Y ?_|(refine cm0 Y Y Y ?_ ?_<;>intro _<;>try omega)|refine Z5 Y Y (ZG _) ?_|refine ZB Y Y Y (ZG _) ?_|refine Za Y (ZQ _) (Zg _) ?_|refine ZA Y Y (by first|rfl|(simp only[List.nil_append,List.append_nil,List.cons_append,ZH,ZC,ZE];first|done|rfl)) (hP _) ?_|refine ZA Y Y (by first|rfl|(simp only[List.nil_append,List.append_nil,List.cons_append,ZH,ZC,ZE];first|done|rfl)) (hZ1 _) ?_)
 all_goals try first|contradiction|omega
 all_goals refine ZO hA (by simp) Y Y Y Y ?_
 all_goals rfl
theorem Zni{N:ZF}(hl:N.length<4294967296){lv:Nat}(hr:RRd st lv ix N){y:Tr}(hx:Val N x)(hy:IsEmpty y)(hb:x.bytes<=65536):
 S Tb JE [.ptr lv ix 0 0 0,x.av,y.av] st=some (.tup [.lit [],.int .i64 2],st):=by
 refine Zj Y (fun A hA=>?_)
 have hP:=fun L=>ZRH hl (hr.push hA (ro:=false) (L:=L)) (.inr hx) (.inl hy) hb (by rw[hy.bytes];omega)
 have hZ1:=fun st=>ZAa hx st
 have hZ2:=fun st=>YJ y hy st
 repeat'(first|refine ruS Y ?_|refine isS Y ?_|refine rkS Y ?_|(refine cm0 Y Y Y ?_ ?_<;>intro _<;>try omega)|refine Z5 Y Y (ZG _) ?_|refine ZB Y Y Y (ZG _) ?_|refine Za Y (ZQ _) (Zg _) ?_|refine ZA Y Y (by first|rfl|(simp only[List.nil_append,List.append_nil,List.cons_append,ZH,ZC,ZE];first|done|rfl)) (hP _) ?_|refine ZA Y Y (by first|rfl|(simp only[List.nil_append,List.append_nil,List.cons_append,ZH,ZC,ZE];first|done|rfl)) (hZ1 _) ?_|refine ZA Y Y (by first|rfl|(simp only[List.nil_append,List.append_nil,List.cons_append,ZH,ZC,ZE];first|done|rfl)) (hZ2 _) ?_)
 all_goals try first|contradiction|omega
 all_goals refine ZO hA (by simp) Y Y Y Y ?_
 all_goals rfl
theorem Zfu(r:Ro)(st:St):S Tb YO [r.av] st=some ((Tr.keep r).av,st):=by
 refine Zj Y (fun A hA=>?_)
 unfold Ro.av
 repeat'(first|refine ruS Y ?_|refine isS Y ?_|refine ZB Y Y Y Y ?_|refine rkS Y ?_|refine ZZ Y Y Y ?_|refine ZJ Y Y Y ?_|refine Ze Y Y Y Y Y Y ?_)
 all_goals exact ZBL (t:=Tr.keep r) hA (.inr Y) Y Y Y
theorem ZjJ{N:ZF}(hl:N.length<4294967296){lv:Nat}(hr:RRd st lv ix N){r:Ro}(h:RootOk N r):S Tb Yo [.ptr lv ix 0 0 0,r.av] st=some (.int .i64 0,st):=by
 refine Zj Y (fun A hA=>?_)
 rcases h with rfl|⟨x,h1,h2,h3,h4,h5⟩
 ·simp only[Ro.av,Ro.zero,Mea.zero]
  repeat'(first|refine QD Y Y Y Y ?_|refine ruS Y ?_|refine isS Y ?_|refine ZB Y Y Y Y ?_|refine rkS Y ?_|(refine cm0 Y Y Y ?_ ?_<;>intro _<;>try omega)|refine ZZ Y Y Y ?_|refine ZJ Y Y Y ?_)
  all_goals try first|contradiction|omega
  all_goals refine ZO hA (by simp) Y Y Y Y ?_
  all_goals rfl
 ·have hI:=fun L=>Zqi (hr.push hA (ro:=false) (L:=L)) h1 h2 hl
  rw[h4,h5]at hI
  have ho:((r.at_:Nat):Int)≠0:=by omega
  unfold Ro.av
  repeat'(first|refine ruS Y ?_|refine isS Y ?_|refine ZB Y Y Y Y ?_|refine rkS Y ?_|(refine cm0 Y Y Y ?_ ?_<;>intro _<;>try omega)|refine ZJ Y Y Y ?_|refine ZA Y Y Y (hI _) ?_)
  all_goals try first|contradiction|omega
  all_goals refine ZO hA (by simp) Y Y Y Y ?_
  all_goals rfl
theorem Zrv{N:ZF}(hl:N.length<4294967296){lv:Nat}(hr:RRd st lv ix N){r:Ro}(h:RootOk N r):S Tb ZAJ [.ptr lv ix 0 0 0,r.av] st=some (.tup [(Tr.keep r).av,.int .i64 0],st):=by
 refine Zj Y (fun A hA=>?_)
 have hR:=fun L=>ZjJ hl (hr.push hA (ro:=false) (L:=L)) h
 have hK:=fun st=>Zfu r st
 unfold Ro.av at *
 repeat'(first|refine ruS Y ?_|refine isS Y ?_|refine ZB Y Y Y Y ?_|refine rkS Y ?_|(refine cm0 Y Y Y ?_ ?_<;>intro _<;>try omega)|refine QD Y Y Y Y ?_|refine ZJ Y Y Y ?_|refine Ze Y Y Y Y Y Y ?_|refine ZA Y Y (by first|rfl|(simp only[List.nil_append,List.append_nil,List.cons_append,ZH,ZC,ZE];first|done|rfl)) (hR _) ?_|refine ZA Y Y (by first|rfl|(simp only[List.nil_append,List.append_nil,List.cons_append,ZH,ZC,ZE];first|done|rfl)) (hK _) ?_)
 all_goals try first|contradiction|omega
 all_goals exact ZCn hA (.inr Y) Y Y Y Y
theorem Zfv(s:B8):QAbs.allBytes (QL s)=some s:=by
 induction s with
 | nil=>rfl
 | cons x s ih =>
  show ((QAbs.byteOf (AV.int .u8 x.toNat)).bind fun b=>(QAbs.allBytes (QL s)).map (b::·))=_
  rw[ih]
  simp[QAbs.byteOf]
theorem Zfw{lv i1 i2 i3:Nat}{f:FuncId}(st:St)(h:lv<b):Zb QK b st (.func (.func f) [] [.ptr lv i1 0 0 0,.ptr lv i2 0 0 0,.ptr lv i3 0 0 0])=some (.func (.func f) [] [.ptr lv i1 0 0 0,.ptr lv i2 0 0 0,.ptr lv i3 0 0 0],st):=by
 simp only[Zb,QK,Zqm,if_true,mapSt,Option.bind_some,if_pos h,ZBv]
theorem Zpl{b0 b1 b2 b3 b4:Blk}{v:Nat}{t:B8}:Q6 ⟨A,false,[b0,b1,b2,b3,b4]⟩ A.length 3 2 v t=⟨A,false,[b0,b1,.arr 1 v (QL t),.arr 1 0 [.ref A.length 2 v 0 t.length],b4]⟩:=by
 simp[Q6,St.upd]
theorem Zxd{N:ZF}(hN:GoodN N){lv:Nat}(hr:Rd st lv ix N)(ht:VE N t)(hb:t.bytes<=65536):S Tb ZOQ [.ptr lv ix 0 0 0,t.av] st=some (.tup [.str (t.txt N),.int .i64 0],st):=by
 refine Zj Y (fun A hA=>?_)
 have hlv:lv<A.length:=by
  obtain⟨a0,a1,im,a3,a4,a5,h1,h2⟩:=hr
  have:=St.get_le h1
  rw[hA];simp;omega
 have hrp:=fun L=>hr.push hA (ro:=false) (L:=L)
 have hC:=fun L=>ZBn (hrp L) ht hb
 rcases ht with he|hv
 ·rw[he.txt]
  have hK:=fun st=>ZBK t he st
  repeat'(first|refine ruS Y ?_|refine isS Y ?_|refine ZB Y Y Y Y ?_|refine rkS Y ?_|(refine cm0 Y Y Y ?_ ?_<;>intro _<;>try omega)|(refine cm0 Y Y Y ?_ ?_<;>intro _<;>try omega)|refine ZOL Y Y ?_|refine ZJ Y Y Y ?_|refine ZQ8 Y ?_|refine Z5 Y Y (ZG _) ?_|refine ZB Y Y Y (ZG _) ?_|refine Za Y (ZQ _) (Zg _) ?_|refine ZA Y Y (by first|rfl|(simp only[List.nil_append,List.append_nil,List.cons_append,ZH,ZC,ZE];first|done|rfl)) (hC _) ?_|refine ZA Y Y (by first|rfl|(simp only[List.nil_append,List.append_nil,List.cons_append,ZH,ZC,ZE];first|done|rfl)) (hK _) ?_|refine Ze Y Y Y (Zfw _ (Nat.lt_succ_self _)) Y Y ?_)
  all_goals try omega
  all_goals refine ZO hA (by simp) Y Y Y Y ?_
  all_goals rfl
 ·obtain⟨k,hk1,hK⟩:=hv.kindNe
  repeat'(first|refine ruS Y ?_|refine isS Y ?_|refine ZB Y Y Y Y ?_|refine ZX ?_|(refine cm0 Y Y Y ?_ ?_<;>intro _<;>try omega)|(refine cm0 Y Y Y ?_ ?_<;>intro _<;>try omega)|refine ZOL Y Y ?_|refine ZJ Y Y Y ?_|refine ZQ8 Y ?_|refine Z5 Y Y (ZG _) ?_|refine ZB Y Y Y (ZG _) ?_|refine Za Y (ZQ _) (Zg _) ?_|refine ZA Y Y (by first|rfl|(simp only[List.nil_append,List.append_nil,List.cons_append,ZH,ZC,ZE];first|done|rfl)) (hC _) ?_|refine ZA Y Y (by first|rfl|(simp only[List.nil_append,List.append_nil,List.cons_append,ZH,ZC,ZE];first|done|rfl)) (hK _) ?_|refine Ze Y Y Y (Zfw _ (Nat.lt_succ_self _)) Y Y ?_)
  all_goals try omega
  have hwa:∀L,L=[.arr 1 0 [.ptr lv ix 0 0 0],.arr 7 0 [t.av],.arr 1 0 [],.arr 1 0 [.ref A.length 2 0 0 0],.arr 1 0 [.func (.func Y2) [] [.ptr A.length 0 0 0 0,.ptr A.length 3 0 0 0,.ptr A.length 4 0 0 0]]] ->
   Sp Tb Y2 [t.av,.ptr A.length 0 0 0 0,.ptr A.length 3 0 0 0,.ptr A.length 4 0 0 0] ⟨A,false,L⟩ fun v st'=>v=.int .i64 0/\∃ver',st'=Q6 ⟨A,false,L⟩ A.length 3 2 ver' ([]++t.txt N):=by
   rintro L rfl
   refine ZxS hN t.h t hv Y hb (pl:=lv) (px:=ix) (ver:=0) ⟨hrp _,by omega,by rw[St.get_cur];rfl,by rw[St.get_cur];rfl,⟨by decide,by decide⟩,⟨by decide,by decide⟩⟩ ⟨by simp[St.wr],by rw[St.get_cur];rfl,by rw[St.get_cur];rfl,by decide⟩ (by simp;omega)
  refine Zb5 Y Y (wk4 _ _ _ _ Y Y Y) (hwa _ Y) ?_
  rintro v st' ⟨rfl,v2,rfl⟩
  rw[List.nil_append,Zpl]
  repeat'(first|refine ruS Y ?_|refine isS Y ?_|refine ZB Y Y Y Y ?_|refine ZX ?_|(refine cm0 Y Y Y ?_ ?_<;>intro _<;>try omega))
  refine ZxM Y (v:=.str (t.txt N)) ?_ ?_
  ·have hl:=ZQt (t.txt N)
   show (ZFG v2 0 (t.txt N).length (St.get _ A.length 2)).bind _=_
   rw[St.get_cur]
   show (ZFG v2 0 (t.txt N).length (some (Blk.arr 1 v2 (QL (t.txt N))))).bind _=_
   simp only[ZFG,true_and,hl,Nat.zero_add,Nat.le_refl,if_true,List.drop_zero,Option.bind_some]
   rw[List.take_of_length_le (by omega),Zfv];rfl
  repeat'(first|refine isS Y ?_|refine rkS Y ?_|refine Jq ?_)
  refine ZO hA (by simp) Y Y Y Y ?_
  rfl
def ZQz(x n:Int):Int:=(x % 18446744073709551616) % (n+1)
theorem ZAx{x n:Int}(h:0<=n):0<=ZQz x n/\ZQz x n<=n:=by
 unfold ZQz
 have:=Int.emod_nonneg (x % 18446744073709551616) (show n+1≠0 by omega)
 have:=Int.emod_lt_of_pos (x % 18446744073709551616) (show 0<n+1 by omega)
 omega
theorem Zww(x:Int):IntKind.u64.wrap x=x % 18446744073709551616:=by
 have e1:IntKind.u64.signed=false:=rfl;have e2:IntKind.u64.bits=64:=rfl;simp only[IntKind.wrap,e1,e2,Bool.false_and,if_false,jB];rfl
theorem ZW1(x n:Int)(h0:0<=n)(h1:n<4611686018427387904)(st:St):S Tb Q2 [.int .i64 x,.int .i64 n] st=some (.int .i64 (ZQz x n),st):=by
 have hp:=ZAx (x:=x) h0
 have hw:IntKind.u64.wrap (n+1)=n+1:=by rw[Zww];omega
 have hx:=Int.emod_nonneg x (show (18446744073709551616:Int)≠0 by decide)
 have hrem:ZIT .rem (.int .u64 (IntKind.u64.wrap x)) (.int .u64 (n+1))=some (.int .u64 (ZQz x n)):=by
  rw[Zww]
  show (if n+1=0 then none else some (AV.int .u64 ((x % 18446744073709551616).tmod (n+1))))=_
  rw[if_neg (by omega),Int.tmod_eq_emod_of_nonneg hx];rfl
 refine Zj Y (fun A hA=>?_)
 repeat'(first|refine ruS Y ?_|refine isS Y ?_|refine ZX ?_)
 refine Zvo Y ?_
 repeat'(first|refine ZDH Y ?_|refine ZL Y Y (by omega) ?_)
 refine ZOK Y hw ?_;refine ZGO Y Y hrem ?_
 refine ZOK Y (ZXI (by omega) (by omega)) ?_
 repeat'(first|refine isS Y ?_|refine rkS Y ?_|refine Jq ?_)
 refine ZO hA (by simp) Y Y Y Y ?_
 rfl
theorem Zxe(t:Tr):t.Pos->∀st,S Tb Ym [t.av] st=some (t.own.av,st):=by
 induction t using Tr.ind with
 | step o h m s k ih =>
  intro hp st
  cases hp with
  | mk h0 h4 hk =>
  refine Zj Y (fun A hA=>?_)
  rw[Tr.av,Tr.avO_sl]
  cases k with
  | none =>
   simp only[slV,Option.getD]at *
   repeat'(first|refine ruS Y ?_|refine isS Y ?_|refine ZB Y Y Y Y ?_|refine rkS Y ?_|refine QG Y ?_|(refine cm0 Y Y Y ?_ ?_<;>intro _<;>try omega)|refine ZJ Y Y Y ?_|refine QN Y ?_|refine Ze Y Y Y (Qv _ (Nat.lt_succ_self _)) Y Y ?_|refine Ze Y Y Y (ZFA _ (Nat.lt_succ_self _)) Y Y ?_|refine Zr ?_)
   refine JL hA (.inr Y) Y Y Y (ZfW (l:=[]) Y Y) Y ?_;rfl
  | some l =>
   have he:Tr.own (.mk o h m s (some l))=.mk o h m s (some (l.map Tr.own)):=by
    rw[Tr.own,Tr.ownO,Tr.ownL_map]
   rw[he]
   simp only[slV,Option.getD]at *
   repeat'(first|refine ruS Y ?_|refine isS Y ?_|refine ZX ?_|refine ZJ Y Y Y ?_|refine QN Y ?_)
   refine Zc (α:=Nat) (fun i=>[(1,.ptr A.length 0 0 0 0),(2,.ptr A.length 1 0 0 0),(3,.ref A.length 2 i 0 i),(4,.int .i64 i)])
    (fun i=>⟨A,false,[.arr 7 0 [.agg [.int .u64 o,.int .i64 h,.int .i64 m.b,.int .i64 m.r,.int .i64 m.l,.str s,.lit (l.map Tr.av)]],.arr 7 0 [trZ],.arr 7 i (((l.take i).map Tr.own).map Tr.av)]⟩) (fun i=>i<=l.length) (fun i=>l.length-i) 0 rfl rfl (by simp) ?_
   intro i hi
   repeat'(first|refine ruS Y ?_|refine isS Y ?_|refine ZB Y Y Y Y ?_|refine rkS Y ?_|refine Zi Y ?_|(refine cm0 Y Y Y ?_ ?_<;>intro _<;>try omega)|refine Ze Y Y Y (Qv _ (Nat.lt_succ_self _)) Y Y ?_|refine Ze Y Y Y (ZFA _ (Nat.lt_succ_self _)) Y Y ?_|refine QY Y Y (by omega) ZQ (fun _ _=>?_)|refine Zk Y (ZG _) ?_)
   ·rename_i t ht
    have ht2:l[i]?=some t:=ht;have h5:=ih t (jM ht2) (hk t (jM ht2))
    have hlen:((l.take i).map Tr.own).length=i:=by rw[List.length_map,List.length_take];omega
    repeat'(first|refine Qp ?_|refine isS Y ?_|refine rkS Y ?_|refine ZL Y Y (by omega) ?_|refine ZA Y Y (by first|rfl|(simp only[List.nil_append,List.append_nil,List.cons_append,ZH,ZC,ZE];first|done|rfl)) (h5 _) ?_|refine Y4 Y ?_|refine ZWu Y Y Y hlen.symm (by omega) ?_)
    refine⟨i+1,⟨rfl,?_⟩,by omega,by omega⟩
    rw[ZU ht2,List.map_append (f:=Tr.own)];rfl
   ·have hi':i=l.length:=by omega
    subst hi';rw[List.take_length]
    skip
    refine JL hA (.inr Y) Y Y Y (ZfW (l:=l.map Tr.own) Y (by simp)) Y ?_
    rw[Tr.av,Tr.avO,Tr.avL_map]
theorem Zxy(l:List Tr)(hl:l.length<=4)(hp:∀t∈l,t.Pos)(st:St):S Tb ZTm [.lit (l.map Tr.av)] st=some (.lit ((l.map Tr.own).map Tr.av),st):=by
 refine Zj Y (fun A hA=>?_)
 repeat'(first|refine ruS Y ?_|refine isS Y ?_|refine ZX ?_|refine Zi Y ?_|refine QN Y ?_)
 refine Zc (α:=Nat × List Blk) (fun p=>[(3,.ref A.length 0 p.1 0 p.1),(6,.lit (l.map Tr.av)),(7,.int .i64 l.length),(8,.int .i64 p.1)])
  (fun p=>⟨A,false,.arr 7 p.1 (((l.take p.1).map Tr.own).map Tr.av)::p.2⟩) (fun p=>p.1<=l.length) (fun p=>l.length-p.1) (0,[]) rfl rfl (by simp) ?_
 rintro⟨i,G⟩ hi
 simp only at hi ⊢
 repeat'(first|refine ruS Y ?_|refine isS Y ?_|refine rkS Y ?_|(refine cm0 Y Y Y ?_ ?_<;>intro _<;>try omega)|refine Za Y Y Y ?_|refine QY Y Y (by omega) ZQ (fun _ _=>?_)|refine Zk Y (ZG _) ?_|refine Z5 Y Y (ZG _) ?_|refine J5 Y Y Y (Zn _ _ _) (Zx _ _) Y ?_)
 ·rename_i t ht
  have ht2:l[i]?=some t:=ht;have h5:=Zi1 t (hp t (jM ht2))
  have hlen:((l.take i).map Tr.own).length=i:=by rw[List.length_map,List.length_take];omega
  repeat'(first|refine Qp ?_|refine isS Y ?_|refine rkS Y ?_|refine ZL Y Y (by omega) ?_|refine ZA Y Y (by first|rfl|(simp only[List.nil_append,List.append_nil,List.cons_append,ZH,ZC,ZE];first|done|rfl)) (h5 _) ?_|refine Y4 Y ?_|refine ZWu Y Y Y hlen.symm (by omega) ?_)
  refine⟨(i+1,G++[.arr 7 0 [t.av]]),⟨rfl,?_⟩,by simp only;omega,by simp only;omega⟩
  simp only[ZU ht2,List.map_append (f:=Tr.own)];rfl
 ·have hi':i=l.length:=by omega
  subst hi';rw[List.take_length]
  skip
  refine Qu hA (.inr Y) Y Y (by simp) (ZRC _) ?_
  rfl
theorem Zwa{N:ZF}(hN:GoodN N){lv:Nat}(hr:Rd st lv ix N){y:Tr}(hx:Val N x)(hy:Val N y)(hb:x.bytes+y.bytes<=65536):
 S Tb ZCO [.ptr lv ix 0 0 0,x.av,y.av] st=some (.tup [.lit (((QV N (x.h+y.h) x y).map Tr.own).map Tr.av),.int .i64 0],st):=by
 refine Zj Y (fun A hA=>?_)
 have hrp:=fun L=>hr.push hA (ro:=false) (L:=L)
 have hBo:=fun L=>Ztu (hrp L) (.inr hx) (.inr hy) false (fun _=>⟨hx,hy⟩) hb
 have hM:=fun L=>ZqZ hN (x.h+y.h) (hrp L) hx hy rfl
 have hMo:=Jd hN _ x y hx hy rfl
 have hal:=fun st=>Zxy (QV N (x.h+y.h) x y) (by rcases hMo.len with w|w<;>omega) (fun t ht=>(hMo.val t ht).pos.1) st
 generalize QV N (x.h+y.h) x y=r at *
 repeat'(first|refine ruS Y ?_|refine isS Y ?_|refine rkS Y ?_|(refine cm0 Y Y Y ?_ ?_<;>intro _<;>try omega)|refine Z5 Y Y (ZG _) ?_|refine ZB Y Y Y (ZG _) ?_|refine Za Y (ZQ _) (Zg _) ?_|refine ZA Y Y (by first|rfl|(simp only[List.nil_append,List.append_nil,List.cons_append,ZH,ZC,ZE];first|done|rfl)) (hBo _) ?_|refine ZA Y Y (by first|rfl|(simp only[List.nil_append,List.append_nil,List.cons_append,ZH,ZC,ZE];first|done|rfl)) (hM _) ?_|refine ZA Y Y (by first|rfl|(simp only[List.nil_append,List.append_nil,List.cons_append,ZH,ZC,ZE];first|done|rfl)) (hal _) ?_)
 all_goals try omega
 refine ZO hA (by simp) Y Y Y Y ?_
 rfl
theorem ZuE{k k':Option (List Tr)}(h:Tr.ownO k=Tr.ownO k'):(k.getD []).map Tr.own=(k'.getD []).map Tr.own:=by
 cases k<;>cases k'<;>simp[Tr.ownO,Tr.ownL_map]at h ⊢<;>exact h
theorem ZBP(t:Tr):t.Pos->∀u:Tr,t.own=u.own->∀st,S Tb QH [t.av,u.av] st=some (.bool true,st):=by
 induction t using Tr.ind with
 | step o h m s k ih =>
  intro hp u hu st;obtain⟨o',h',m',s',k'⟩:=u;simp only[Tr.own,Tr.mk.injEq]at hu;obtain⟨rfl,rfl,rfl,rfl,hk⟩:=hu;obtain⟨b,r,c⟩:=m;have hem:=Zwt b r c
  cases hp with
  | mk h0 h4 hk0 =>
  have hl:=ZuE hk
  have hlen:(k.getD []).length=(k'.getD []).length:=by have:=congrArg List.length hl;simpa using this
  refine Zj Y (fun A hA=>?_)
  rw[Tr.av,Tr.av,Tr.avO_sl,Tr.avO_sl]
  cases k with
  | none =>
   cases k' with
   | none =>
    simp only[slV,Option.getD]at *
    repeat'(first|refine QD Y Y hem Y ?_|refine ruS Y ?_|refine isS Y ?_|refine ZB Y Y Y Y ?_|refine rkS Y ?_|refine QG Y ?_|(refine cm0 Y Y Y ?_ ?_<;>intro _<;>try omega)|(refine ZCM Y Y (fun _=>?_) (fun _=>?_)<;>try contradiction)|refine ZJ Y Y Y ?_|refine Zr ?_)
    all_goals try contradiction
    all_goals try exact absurd Y ‹_›
    all_goals try omega
    all_goals refine ZO hA (by simp) Y Y Y Y ?_
    all_goals rfl
   | some l' =>
    have:l'=[]:=List.length_eq_zero_iff.1 (by simpa using hlen.symm)
    subst this
    simp only[slV,Option.getD,List.map_nil]at *
    repeat'(first|refine QD Y Y hem Y ?_|refine ruS Y ?_|refine isS Y ?_|refine ZB Y Y Y Y ?_|refine rkS Y ?_|refine Qg Y Y ?_|refine QG Y ?_|(refine cm0 Y Y Y ?_ ?_<;>intro _<;>try omega)|(refine ZCM Y Y (fun _=>?_) (fun _=>?_)<;>try contradiction)|refine ZJ Y Y Y ?_|refine Zr ?_)
    all_goals try contradiction
    all_goals try exact absurd Y ‹_›
    all_goals try omega
    all_goals refine ZO hA (by simp) Y Y Y Y ?_
    all_goals rfl
  | some l =>
   cases k' with
   | none =>
    have:l=[]:=List.length_eq_zero_iff.1 (by simpa using hlen)
    subst this
    simp only[slV,Option.getD,List.map_nil]at *
    repeat'(first|refine QD Y Y hem Y ?_|refine ruS Y ?_|refine isS Y ?_|refine ZB Y Y Y Y ?_|refine rkS Y ?_|refine Qg Y Y ?_|refine QG Y ?_|(refine cm0 Y Y Y ?_ ?_<;>intro _<;>try omega)|(refine ZCM Y Y (fun _=>?_) (fun _=>?_)<;>try contradiction)|refine ZJ Y Y Y ?_|refine Zr ?_)
    all_goals try contradiction
    all_goals try exact absurd Y ‹_›
    all_goals try omega
    all_goals refine ZO hA (by simp) Y Y Y Y ?_
    all_goals rfl
   | some l' =>
    simp only[slV,Option.getD]at *
    have hm1:(l.map Tr.av).length=l.length:=by simp
    have hm2:(l'.map Tr.av).length=l'.length:=by simp
    have key:∀k Q B0 B1,
     Rk (S Tb) k Q .norm [(2,.ptr A.length 0 0 0 0),(3,.ptr A.length 1 0 0 0),(5,.int .i64 l.length),(45,.bool false)] ⟨A,false,[.arr 7 0 [.agg [.int .u64 o,.int .i64 h,.int .i64 b,.int .i64 r,.int .i64 c,.str s,.lit (l.map Tr.av)]],.arr 7 0 [.agg [.int .u64 o,.int .i64 h,.int .i64 b,.int .i64 r,.int .i64 c,.str s,.lit (l'.map Tr.av)]]]⟩ ->
     B0=.arr 7 0 [.agg [.int .u64 o,.int .i64 h,.int .i64 b,.int .i64 r,.int .i64 c,.str s,.lit (l.map Tr.av)]]->B1=.arr 7 0 [.agg [.int .u64 o,.int .i64 h,.int .i64 b,.int .i64 r,.int .i64 c,.str s,.lit (l'.map Tr.av)]] ->
     Ru (S Tb) p_quartoref15_Same_8.loop (.blk 0::k) Q [(2,.ptr A.length 0 0 0 0),(3,.ptr A.length 1 0 0 0),(5,.int .i64 0)] ⟨A,false,[B0,B1]⟩:=by
     rintro k Q B0 B1 hex rfl rfl
     refine Zc (α:=Nat) (fun i=>[(2,.ptr A.length 0 0 0 0),(3,.ptr A.length 1 0 0 0),(5,.int .i64 i)]) (fun i=>⟨A,false,[.arr 7 0 [.agg [.int .u64 o,.int .i64 h,.int .i64 b,.int .i64 r,.int .i64 c,.str s,.lit (l.map Tr.av)]],.arr 7 0 [.agg [.int .u64 o,.int .i64 h,.int .i64 b,.int .i64 r,.int .i64 c,.str s,.lit (l'.map Tr.av)]]]⟩) (fun i=>i<=l.length) (fun i=>l.length-i) 0 Y Y (by omega) ?_
     intro i hi
     rcases Nat.lt_or_ge i l.length with hlt|hge
     ·obtain⟨x,hx⟩:∃x,l[i]?=some x:=⟨l[i]'hlt,jE _⟩
      obtain⟨y,hy⟩:∃y,l'[i]?=some y:=⟨l'[i]'(by omega),jE _⟩
      have q1:0<=((i:Nat):Int)/\l[((i:Nat):Int).toNat]?=some x:=⟨by omega,by rw[show ((i:Nat):Int).toNat=i by omega];exact hx⟩
      have q2:0<=((i:Nat):Int)/\l'[((i:Nat):Int).toNat]?=some y:=⟨by omega,by rw[show ((i:Nat):Int).toNat=i by omega];exact hy⟩
      have hxy:x.own=y.own:=by
       have e1:(l.map Tr.own)[i]?=some x.own:=by rw[jG,hx];rfl
       have e2:(l'.map Tr.own)[i]?=some y.own:=by rw[jG,hy];rfl
       rw[hl,e2]at e1;exact (Option.some.inj e1).symm
      have hS:=ih x (jM hx) (hk0 x (jM hx)) y hxy
      repeat'(first|refine Z6 (f:=Tr.av) Y Y q1 ZQ ?_|refine Z6 (f:=Tr.av) Y Y q2 ZQ ?_|refine ruS Y ?_|refine isS Y ?_|refine ZB Y Y Y Y ?_|refine rkS Y ?_|refine Zi Y ?_|(refine cm0 Y Y Y ?_ ?_<;>intro _<;>try omega)|refine ZL Y Y (by omega) ?_|refine Zk Y (ZG _) ?_|refine ZA Y Y (by first|rfl|(simp only[List.nil_append,List.append_nil,List.cons_append,ZH,ZC,ZE];first|done|rfl)) (hS _) ?_)
      all_goals try first|contradiction|omega
      all_goals exact⟨i+1,⟨rfl,rfl⟩,by omega,by omega⟩
     ·obtain rfl:i=l.length:=by omega
      repeat'(first|refine ruS Y ?_|refine isS Y ?_|refine ZB Y Y Y Y ?_|refine rkS Y ?_|refine Zi Y ?_|(refine cm0 Y Y Y ?_ ?_<;>intro _<;>try omega))
      all_goals try omega
      all_goals exact hex
    repeat'(first|refine QD Y Y hem Y ?_|refine ruS Y ?_|refine isS Y ?_|refine ZB Y Y Y Y ?_|refine ZX ?_|refine Zi Y ?_|(refine cm0 Y Y Y ?_ ?_<;>intro _<;>try omega)|(refine ZCM Y Y (fun _=>?_) (fun _=>?_)<;>try contradiction)|refine ZJ Y Y Y ?_)
    all_goals try contradiction
    all_goals try exact absurd Y ‹_›
    all_goals try omega
    all_goals refine key _ _ _ _ ?_ Y Y
    all_goals repeat'(first|refine ruS Y ?_|refine isS Y ?_|refine rkS Y ?_)
    all_goals refine ZO hA (by simp) Y Y Y Y ?_
    all_goals rfl
end Go.Q15
