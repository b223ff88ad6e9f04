/- A part of the proof: PO, RW, RX, W9, SB, SC, RY, RZ, SD, SE, SF, SG, SI, SJ, SK, SL, SN, SO, SPa, SSa, SSb, SSc, PDa, PDb, SSd, SSe, SSf, SSg, SSh, SSi, SSj, SSk, SPb, SPc, SPd, SQa, SQb, SQc, SQd, SQe, SSl, SQf, SQg, SQh, SSm, SSn, ESa, ESb, ESc, ESd, ESe, STc, STd, ESg, PSj, PSl, RSa, RPe, RSb, RSc, PEa, CUa, W10, SKa, SKb, SKc, CUc, CUd, CUe, CUf, CUg, CUh. No condition. -/
import Derived.Test.YtcdebbidfgmieaaGreatRpT8
set_option linter.unusedVariables false
set_option linter.unusedSimpArgs false
set_option maxHeartbeats 16000000
set_option maxRecDepth 100000
namespace Go.Q15
open Go Go.QAbs
variable {w:AV}{e:Env}{f g:FuncId}{a z:Int}{A:List (Bool × List Blk)}{args caps:LV}{k:List Fr}{l:List Nat}{s s0:B8}{d i ix la lm mx n o ver:Nat}{v x:Opd}{O:Orc}{ro:Ro}{st:St}{t:Tr}{Q:YD}
theorem ZCk(k:Option (List Tr)):(Tr.ownO k).getD []=(k.getD []).map Tr.own:=by
 cases k with
 | none=>rfl
 | some l=>simp[Tr.ownO,Tr.ownL_map]
theorem Znz(t:Tr):t.own.h=t.h:=by cases t;rfl
theorem ZCl(t:Tr):t.own.bytes=t.bytes:=by
 induction t using Tr.ind with
 | step o h m s k ih =>
  rw[Tr.own,Tr.bytes,Tr.bytes,Tr.bytesO_getD,Tr.bytesO_getD,ZCk];generalize k.getD []=l at ih
  congr 1
  induction l with
  | nil=>rfl
  | cons a l ih2=>rw[jC,Tr.bytesL,Tr.bytesL,ih a (by simp),ih2 (fun t ht=>ih t (by simp[ht]))]
theorem Zqd(N:ZO)(t:Tr):t.own.txt N=t.txt N:=by
 induction t using Tr.ind with
 | step o h m s k ih =>
  rw[Tr.own,Tr.txt,Tr.txt,Tr.txtO_getD,Tr.txtO_getD,ZCk];generalize k.getD []=l at ih
  congr 1
  induction l with
  | nil=>rfl
  | cons a l ih2=>rw[jC,Tr.txtL,Tr.txtL,ih a (by simp),ih2 (fun t ht=>ih t (by simp[ht]))]
theorem Zqe{N:ZO}(hv:Val N t):Val N t.own:=by
 induction hv with
 | kept h0 hx hok hh hm hk =>
  rw[Tr.own]
  exact .kept h0 hx hok hh hm (by rw[ZCk,hk];rfl)
 | leaf h1 h2 hk =>
  rw[Tr.own]
  exact .leaf h1 h2 (by rw[ZCk,hk];rfl)
 | inner hh h2 h4 hl hb hv ih =>
  rename_i h l
  rw[Tr.own,Tr.ownO,Tr.ownL_map]
  refine .inner hh (by rw[List.length_map];exact h2) (by rw[List.length_map];exact h4) ?_ ?_ ?_
  ·intro t ht
   obtain⟨u,hu,rfl⟩:=List.mem_map.1 ht;rw[Znz];exact hl u hu
  ·intro t ht q
   obtain⟨u,hu,rfl⟩:=List.mem_map.1 ht;rw[ZCl];exact hb u hu q
  ·intro t ht
   obtain⟨u,hu,rfl⟩:=List.mem_map.1 ht;exact ih u hu
theorem Zn0{N:ZO}(h:VE N t):VE N t.own:=by
 rcases h with h|h
 ·obtain⟨o,h',m,s,k⟩:=t
  obtain⟨h1,h2,h3,h4,h5⟩:=h
  exact .inl ⟨h1,h2,h3,h4,by show (Tr.ownO k).getD []=[];rw[ZCk];simp only[Tr.ks]at h5;rw[h5];rfl⟩
 ·exact .inr (Zqe h)
theorem ZgB(x n:Int)(h0:0<=n)(h1:n<4611686018427387904)(st:St):S Tb JN [.int .i64 x,.int .i64 n] st=some (.int .i64 (Q0 x n),st):=by
 have hp:=Qc (x:=x) h0
 have hw:IntKind.u64.wrap (n+1)=n+1:=by rw[Zq9];omega
 have hx:=Int.emod_nonneg x (show (18446744073709551616:Int)≠0 by decide)
 have hrem:ZER .rem (.int .u64 (IntKind.u64.wrap x)) (.int .u64 (n+1))=some (.int .u64 (Q0 x n)):=by
  rw[Zq9]
  show (if n+1=0 then none else some (AV.int .u64 ((x % 18446744073709551616).tmod (n+1))))=_
  rw[if_neg (by omega),Int.tmod_eq_emod_of_nonneg hx];rfl
 refine QK Y (fun A hA=>?_)
 repeat'(first|refine ZE ?_|refine ZD ?_|refine ZF Y ?_|refine ZB Y ?_|refine ZC ?_)
 refine Zpv Y ?_
 repeat'(first|refine ZF Y ?_|refine Zj Y Y (by omega) ?_)
 refine ZMq Y hw ?_;refine ZWt Y Y hrem ?_
 refine ZMq Y (ZPa (by omega) (by omega)) ?_
 repeat'(first|refine ZF Y ?_|refine ZB Y ?_|refine ZC ?_|refine ZP ?_|refine ZL ?_)
 refine Zf hA (by simp) Y Y Y Y ?_
 rfl
structure Ed where
 what:Nat
 n:Int
 at_:Int
 len:Int
 text:B8
def Ed.av(y:Ed):AV:=.agg [.int .u8 y.what,.int .i64 y.n,.int .i64 y.at_,.int .i64 y.len,.str y.text]
def Zds(ros:List Ro)(x:Int):Option Ro:=ros[(Q0 x ((ros.length:Int)-1)).toNat]?
noncomputable def ZDa(N:ZO)(ros:List Ro)(y:Ed):Tr :=
 match Zds ros y.n with
 | none=>Qt y.text
 | some r=>(ZGt N (XO r) (Q0 y.at_ r.m.b) (Q0 y.len (r.m.b-Q0 y.at_ r.m.b)) y.text).own
theorem Zn1{ros:List Ro}{x:Int}(h:ros≠[]):∃r,Zds ros x=some r/\r∈ros/\(Q0 x ((ros.length:Int)-1)).toNat<ros.length:=by
 have hl:0<ros.length:=List.length_pos_iff.2 h
 have:=Qc (x:=x) (n:=(ros.length:Int)-1) (by omega)
 have hlt:(Q0 x ((ros.length:Int)-1)).toNat<ros.length:=by omega
 exact⟨ros[(Q0 x ((ros.length:Int)-1)).toNat]'hlt,by unfold Zds;rw[jE hlt],List.getElem_mem _,hlt⟩
theorem ZgC(r:Ro):JL r.av true 0 5=some r.av:=by cases r;rfl
theorem JG{keep:List Nat}{is:List QAbs.PI}{α:Type}{f:α->AV}{l:List α}(hx:Ze e x=some (.lit (l.map f)))(h:Is O is keep k Q ((d,.int .i64 l.length)::e) st):Is O (⟨some d,none,false,.len 1 x⟩::is) keep k Q e st:=by
 refine ZeS hx ?_;rw[List.length_map];exact h
theorem ZkX{lv:Nat}{n m:Int}:ZY (Zg ([]++[.ptr lv ix 0 0 0,t.av,.int .i64 n,.int .i64 m,.str s]++[]))=some [.ptr lv ix 0 0 0,t.av,.int .i64 n,.int .i64 m,.str s]:=by
 simp only[lE,lN,lC,Zg,ZX,ZY];rfl
structure PlanOk(N:ZO)(ros:List Ro):Prop where
 rt:∀r∈ros,RtOk N r/\(XO r).bytes=r.m.b/\0<=r.m.b/\r.m.b<=60000
 len:ros.length<65536
theorem Rts.plan{N:ZO}(hN:GoodN N){ros:List Ro}{ss:List B8}(h:Rts N ros ss)(hl:ros.length<65536)(hs:∀s∈ss,s.length<=60000):PlanOk N ros:=by
 refine⟨fun r hr=>?_,hl⟩
 obtain⟨i,hi,rfl⟩:=List.getElem_of_mem hr
 have hi2:i<ss.length:=by rw[<- h.1];exact hi
 have g:=h.2 i _ _ (jE hi) (jE hi2);obtain⟨b1,b2⟩:=g.b hN
 have:=hs _ (List.getElem_mem hi2)
 exact⟨g.rt,by rw[b1,b2],by omega,by omega⟩
theorem RtOk.keep{N:ZO}{r:Ro}(h:RtOk N r):VE N (XO r):=(Rt.keep ⟨h,rfl⟩).1
theorem Zn2{N:ZO}(hN:GoodN N){ros:List Ro}(h:PlanOk N ros){y:Ed}(hy:y.text.length<=200):VE N (ZDa N ros y)/\(ZDa N ros y).bytes<=60200:=by
 unfold ZDa
 match hq:Zds ros y.n with
 | none =>
  obtain⟨b1,b2,b3⟩:=Xw hN (s:=y.text) (by omega)
  exact⟨b1,by show (Qt y.text).bytes<=_;omega⟩
 | some r =>
  obtain⟨h1,h2,h3,h4⟩:=h.rt r (jM (show ros[_]?=some r from hq))
  have p1:=Qc (x:=y.at_) h3
  have p2:=Qc (x:=y.len) (n:=r.m.b-Q0 y.at_ r.m.b) (by omega)
  have:=ZOy hN (s:=y.text) h1.keep (a:=Q0 y.at_ r.m.b) (n:=Q0 y.len (r.m.b-Q0 y.at_ r.m.b)) p1.1 p2.1 (by omega) (by omega) (by omega)
  refine⟨Zn0 this.ve,?_⟩
  show (Tr.own _).bytes<=_
  rw[ZCl,this.bytes];omega
theorem Zqf{b:Nat}{N:ZO}(hN:GoodN N)(hR:Rd st la (b+5) N){kx lv:Nat}{ros:List Ro}(hg:st.get lv kx=some (.arr 5 ver (ros.map Ro.av)))(hP:PlanOk N ros){ys:List Ed}(hyl:ys.length<65536)(hy:∀y∈ys,y.text.length<=200):
 S Tb X6 [.ptr la (b+5) 0 0 0,.ref lv kx ver 0 ros.length,.lit (ys.map Ed.av)] st=some (.tup [.lit ((ys.map (ZDa N ros)).map Tr.av),.bool true],st):=by
 refine QK Y (fun A hA=>?_)
 have hr:=fun L=>hR.push hA (ro:=false) (L:=L)
 have gr:=fun L=>ZQ hA (ro:=false) (L:=L) hg
 have hwi:∀L,wIs 5 ver (St.get ⟨A,false,L⟩ lv kx)=true:=fun L=>by rw[gr];simp[wIs]
 have hpl:=hP.len
 repeat'(first|refine ZE ?_|refine ZD ?_|refine ZF Y ?_|refine ZB Y ?_|refine ZC ?_|refine ZBM Y ?_|refine ZJ ?_)
 refine Zt (α:=Nat × List Blk) (fun q=>[(0,.ptr la (b+5) 0 0 0),(1,.ref lv kx ver 0 ros.length),(2,.lit (ys.map Ed.av)),(8,.ref A.length 0 q.1 0 q.1),(9,.int .i64 q.1)])
  (fun q=>⟨A,false,.arr 7 q.1 (((ys.take q.1).map (ZDa N ros)).map Tr.av)::q.2⟩) (fun q=>q.1<=ys.length) (fun q=>ys.length-q.1) (0,[]) rfl rfl (Nat.zero_le _) ?_
 rintro⟨i,G⟩ hi
 simp only at hi ⊢
 rcases Nat.lt_or_ge i ys.length with hlt|hge
 ·obtain⟨y,hyi⟩:∃y,ys[i]?=some y:=⟨ys[i]'(by omega),by simp[hlt]⟩
  have hy1:=hy y (jM hyi)
  have hx:0<=((i:Nat):Int)/\ys[((i:Nat):Int).toNat]?=some y:=⟨by omega,by rw[show ((i:Nat):Int).toNat=i by omega];exact hyi⟩
  have hes:(((ys.take i).map (ZDa N ros)).map Tr.av).length=i:=by simp;omega
  have hfin:∀c,ZDa N ros y=c->((ys.take (i+1)).map (ZDa N ros)).map Tr.av=((ys.take i).map (ZDa N ros)).map Tr.av++[c.av]:=fun c hc=>by
   rw[ZW hyi,List.map_append,List.map_append,<- hc];rfl
  generalize hES:((ys.take i).map (ZDa N ros)).map Tr.av=es at *
  have e0:(⟨A,false,.arr 7 i es::G⟩:St)=⟨A,false,(.arr 7 i es::G)++[]⟩:=by rw[lN]
  rw[e0]
  by_cases hros:ros=[]
  ·have hc:=hfin (Qt y.text) (by unfold ZDa;rw[show Zds ros y.n=none by subst hros;rfl])
   have h0:(ros.length:Int)=0:=by rw[hros];rfl
   have hBu:=fun st=>Zf0 hN y.text (by omega) st
   generalize Qt y.text=c at *
   repeat'(first|refine JG Y ?_|refine Qf Y ?_|refine QY Y Y hx (fun _=>rfl) ?_|refine Yy Y Y Y Y Y ?_|refine ZAU Y Y Y (Zp _) ?_|refine ZMP Y Y Y Y (QQ _ _ _) (Qx _ _) Y ?_|refine ZCg Y ?_|refine ZE ?_|refine ZD ?_|refine ZF Y ?_|refine ZU Y Y ?_|refine Zr Y Y ?_|refine ZB Y ?_|refine ZC ?_|refine QF Y Y ?_|(refine cm0 Y Y Y ?_ ?_<;>intro _<;>try omega)|(refine cm0 Y Y Y ?_ ?_<;>intro _<;>try omega)|(refine cm0 Y Y Y ?_ ?_<;>intro _<;>try omega)|refine ZS Y ?_|refine ZG Y ?_|refine ZA Y Y (by first|rfl|(simp only[lE,lN,lC,Zg,ZX,ZY];first|done|rfl)) (hBu _) ?_|refine ZI ?_|refine ZJ ?_)
   all_goals try first|contradiction|omega
   refine ZBT (es:=es) (ys:=[c].map Tr.av) Y Y Y hes.symm (Y2 _) (ZJT _ _ _) (by rw[hes,List.length_map,List.length_singleton];omega) (by decide) ?_
   repeat'(first|refine ZD ?_|refine ZF Y ?_|refine ZB Y ?_|refine ZC ?_|refine Zj Y Y (by omega) ?_|refine Zo ?_|refine Zc ?_|refine Za Y ?_|refine Z7 ?_)
   refine⟨(i+1,G++[.arr 7 0 [c.av]]),⟨rfl,?_⟩,by simp only;omega,by simp only;omega⟩
   simp only[hc];rfl
  ·obtain⟨r,hr1,hr2,hr3⟩:=Zn1 (x:=y.n) hros
   have hc:=hfin (ZGt N (XO r) (Q0 y.at_ r.m.b) (Q0 y.len (r.m.b-Q0 y.at_ r.m.b)) y.text).own (by unfold ZDa;rw[hr1])
   obtain⟨h1,h2,h3,h4⟩:=hP.rt r hr2;have hl0:0<ros.length:=List.length_pos_iff.2 hros
   have pn:=Qc (x:=y.n) (n:=(ros.length:Int)-1) (by omega)
   have p1:=Qc (x:=y.at_) h3
   have p2:=Qc (x:=y.len) (n:=r.m.b-Q0 y.at_ r.m.b) (by omega)
   have hN1:=fun st=>ZgB y.n ((ros.length:Int)-1) (by omega) (by omega) st
   have hN2:=fun st=>ZgB y.at_ r.m.b (by omega) (by omega) st
   have hN3:=fun st=>ZgB y.len (r.m.b-Q0 y.at_ r.m.b) (by omega) (by omega) st
   have hK:=fun L=>ZV7 (hr L) h1
   have hRe:=fun L=>Zdk hN (hr L) (s:=y.text) h1.keep (a:=Q0 y.at_ r.m.b) (n:=Q0 y.len (r.m.b-Q0 y.at_ r.m.b)) p1.1 p2.1 (by omega) (by omega) (by omega)
   have gr2:(ros.map Ro.av)[0+(Q0 y.n ((ros.length:Int)-1)).toNat]?=some r.av:=by
    rw[Nat.zero_add,jG,show ros[(Q0 y.n ((ros.length:Int)-1)).toNat]?=some r from hr1];rfl
   generalize (ZGt N (XO r) (Q0 y.at_ r.m.b) (Q0 y.len (r.m.b-Q0 y.at_ r.m.b)) y.text).own=c at *
   generalize XO r=kt at *
   repeat'(first|refine JG Y ?_|refine Qf Y ?_|refine QY Y Y hx (fun _=>rfl) ?_|refine YP Y Y (by omega) (hwi _) ?_|refine Z5 Y (gr _) gr2 (ZgC _) ?_|refine Yy Y Y Y Y Y ?_|refine ZAU Y Y Y Y ?_|refine ZAU Y Y Y (Zp _) ?_|refine ZMP Y Y Y Y (QQ _ _ _) (Qx _ _) Y ?_|refine ZMP Y Y Y Y Y Y Y ?_|refine ZCg Y ?_|refine ZE ?_|refine ZD ?_|refine ZF Y ?_|refine ZU Y Y ?_|refine Zr Y Y ?_|refine ZB Y ?_|refine ZC ?_|refine QF Y Y ?_|(refine cm0 Y Y Y ?_ ?_<;>intro _<;>try omega)|(refine cm0 Y Y Y ?_ ?_<;>intro _<;>try omega)|(refine cm0 Y Y Y ?_ ?_<;>intro _<;>try omega)|refine ZS Y ?_|refine ZG Y ?_|refine YE Y Y (by omega) ?_|refine ZA Y Y (by first|rfl|(simp only[lE,lN,lC,Zg,ZX,ZY];first|done|rfl)) (hN1 _) ?_|refine ZA Y Y (by first|rfl|(simp only[lE,lN,lC,Zg,ZX,ZY];first|done|rfl)) (hN2 _) ?_|refine XZ Y Y Y (hN3 _) ?_|refine ZA Y Y (by first|rfl|(simp only[lE,lN,lC,Zg,ZX,ZY];first|done|rfl)) (hK _) ?_|refine ZA Y Y ZkX (hRe _) ?_|refine ZI ?_|refine ZJ ?_)
   all_goals try first|contradiction|omega
   refine ZBT (es:=es) (ys:=[c].map Tr.av) Y Y Y hes.symm (Y2 _) (ZJT _ _ _) (by rw[hes,List.length_map,List.length_singleton];omega) (by decide) ?_
   repeat'(first|refine ZD ?_|refine ZF Y ?_|refine ZB Y ?_|refine ZC ?_|refine Zj Y Y (by omega) ?_|refine Zz ?_|refine Z7 ?_)
   refine⟨(i+1,G++[.arr 5 0 [r.av],.arr 7 0 [c.av]]),⟨rfl,?_⟩,by simp only;omega,by simp only;omega⟩
   simp only[hc];rfl
 ·obtain rfl:i=ys.length:=by omega
  rw[List.take_length]
  repeat'(first|refine JG Y ?_|refine ZE ?_|refine ZD ?_|refine ZF Y ?_|refine ZB Y ?_|refine ZC ?_|(refine cm0 Y Y Y ?_ ?_<;>intro _<;>try omega)|refine ZG Y ?_|refine ZP ?_|refine Zo ?_|refine ZL ?_|refine Zc ?_|refine Za Y ?_|refine Zk ?_)
  all_goals try omega
  exact ZH8 hA (.inr Y) Y Y (by simp) (fun v hv=>by obtain⟨x,_,rfl⟩:=List.mem_map.1 hv;exact ZjA 2 x) Y Y
def ZE9:Nat->List B8->Nat
 | n,[]=>n
 | n,t::ts=>if n<=900 then ZE9 (n+min t.length 1000) ts else n
def ZSr(l:List B8):Prop:=4<l.length\/900<ZE9 0 l
instance (l:List B8):Decidable (ZSr l):=by unfold ZSr;infer_instance
theorem ZPD:∀(l:List B8) (n:Nat),n<=ZE9 n l
 | [],n=>by simp[ZE9]
 | t::ts,n=>by
  rw[ZE9]
  by_cases h:n<=900
  ·rw[if_pos h];have:=ZPD ts (n+min t.length 1000);omega
  ·rw[if_neg h];exact Nat.le_refl _
theorem Zdt:∀(l:List B8) (n:Nat),ZE9 n l<=900->n+(l.map List.length).sum<=900
 | [],n,h=>by simpa [ZE9] using h
 | t::ts,n,h=>by
  rw[ZE9]at h
  by_cases hn:n<=900
  ·rw[if_pos hn]at h
   have h1:=ZPD ts (n+min t.length 1000);have h2:=Zdt ts _ h;rw[jC,List.sum_cons];omega
  ·rw[if_neg hn]at h;omega
theorem Zdu{α:Type}{l:List α}{a:α}(h:l[i]?=some a):l.drop i=a::l.drop (i+1):=by
 obtain⟨h1,h2⟩:=List.getElem?_eq_some_iff.1 h;subst h2;exact List.drop_eq_getElem_cons h1
theorem Zrq(l:List B8)(hb:l.length<9223372036854775808)(hs:∀s∈l,s.length<9223372036854775808)(st:St):S Tb ZAR [.lit (l.map .str)] st=some (.bool (decide (ZSr l)),st):=by
 refine QK Y (fun A hA=>?_)
 repeat'(first|refine ZE ?_|refine ZD ?_|refine ZF Y ?_|refine ZB Y ?_|refine ZC ?_|refine ZJ ?_)
 refine Zt (α:=Nat × Nat) (fun p=>[(0,.lit (l.map .str)),(3,.int .i64 p.2),(4,.int .i64 p.1)]) (fun p=>⟨A,false,[]⟩) (fun p=>p.1<=l.length/\p.2<=1900/\ZE9 p.2 (l.drop p.1)=ZE9 0 l) (fun p=>l.length-p.1) (0,0) Y Y ⟨Nat.zero_le _,Nat.zero_le _,rfl⟩ ?_
 rintro⟨i,n⟩ ⟨h1,h2,h3⟩
 simp only at h1 h2 h3 ⊢
 repeat'(first|refine ZE ?_|refine ZD ?_|refine ZF Y ?_|refine QB Y ?_|refine Q6 Y Y ?_|refine Zl Y Y Y Y ?_|refine ZB Y ?_|refine ZC ?_|refine YY Y ?_|refine QL Y ?_|refine QF Y Y ?_|refine YQ Y Y (by omega) (fun _=>rfl) (fun _ _=>?_)|(refine cm0 Y Y Y ?_ ?_<;>intro _<;>try omega)|refine ZS Y ?_|refine ZG Y ?_|refine ZeR Y Y ?_|refine ZI ?_|refine ZP ?_|refine Zo ?_|refine ZJ ?_|refine ZL ?_|refine Zc ?_|refine Za Y ?_|refine Zk ?_)
 ·rename_i hlt hn x hx
  have hx':l[i]?=some x:=by rw[show i=((i:Nat):Int).toNat by omega];exact hx
  have hxl:=hs x (jM hx')
  have e1:(if false=true then max (x.length:Int) 1000 else min (x.length:Int) 1000)=((min x.length 1000:Nat):Int):=by
   simp only[jB,if_false];omega
  rw[e1]
  refine Zj Y Y (by omega) ?_
  rw[show (n:Int)+((min x.length 1000:Nat):Int)=((n+min x.length 1000:Nat):Int) by omega]
  repeat'(first|refine ZD ?_|refine ZF Y ?_|refine ZB Y ?_|refine ZC ?_|refine Zj Y Y (by omega) ?_|refine Zz ?_|refine Z7 ?_)
  refine⟨(i+1,n+min x.length 1000),⟨rfl,rfl⟩,⟨by simp only;omega,by simp only;omega,?_⟩,by simp only;omega⟩
  rw[<- h3,Zdu hx',ZE9,if_pos (by omega)]
 ·refine ZBN hA (by simp) Y Y ?_
  exact (decide_eq_true (.inl (by omega))).symm
 ·refine ZBN hA (by simp) Y Y ?_
  refine (decide_eq_true (.inr ?_)).symm
  have:=ZPD (l.drop i) n
  omega
 ·refine ZBN hA (by simp) Y Y ?_
  exact (decide_eq_true (.inl (by omega))).symm
 ·refine ZBN hA (by simp) Y Y ?_
  refine (decide_eq_true (.inr ?_)).symm
  have:=ZPD (l.drop i) n
  omega
 ·refine ZBN hA (by simp) Y Y ?_
  refine (decide_eq_false ?_).symm
  have:l.drop i=[]:=List.drop_eq_nil_of_le (by omega)
  rw[this,ZE9]at h3
  rintro (h|h)<;>omega
def ZaO(l:List Ed):Prop:=(∃s∈l.take 100,200<s.text.length)\/60<l.length
open Classical in
noncomputable instance (l:List Ed):Decidable (ZaO l):=Classical.propDecidable _
theorem Zn3(l:List Ed)(hb:l.length<9223372036854775808)(hs:∀s∈l,s.text.length<9223372036854775808)(st:St):S Tb ZAS [.lit (l.map Ed.av)] st=some (.bool (decide (ZaO l)),st):=by
 refine QK Y (fun A hA=>?_)
 repeat'(first|refine ZE ?_|refine ZD ?_|refine ZF Y ?_|refine ZB Y ?_|refine ZC ?_|refine ZJ ?_)
 refine Zt (α:=Nat) (fun i=>[(0,.lit (l.map Ed.av)),(3,.int .i64 i)]) (fun p=>⟨A,false,[]⟩) (fun i=>i<=l.length/\i<=100/\∀j s,j<i->l[j]?=some s->s.text.length<=200) (fun i=>l.length-i) 0 Y Y ⟨Nat.zero_le _,Nat.zero_le _,fun j s h=>by omega⟩ ?_
 rintro i ⟨h1,h2,h3⟩
 have key:∀ {j:Nat} {s:Ed},(l.length:Int)<=i\/100<=(i:Int)->s∈l.take 100->s.text.length<=200:=by
  intro j s hi hm;obtain⟨j,hj⟩:=List.mem_iff_getElem?.1 hm;have hj1:=(List.getElem?_eq_some_iff.1 hj).1;rw[List.length_take]at hj1
  rw[List.getElem?_take,if_pos (by omega)]at hj
  exact h3 j s (by omega) hj
 repeat'(first|refine ZE ?_|refine ZD ?_|refine ZF Y ?_|refine ZU Y Y ?_|refine QB Y ?_|refine Q6 Y Y ?_|refine Zl Y Y Y Y ?_|refine ZB Y ?_|refine ZC ?_|refine YY Y ?_|refine QL Y ?_|refine QF Y Y ?_|refine YQ Y Y (by omega) (fun _=>rfl) (fun _ _=>?_)|(refine cm0 Y Y Y ?_ ?_<;>intro _<;>try omega)|refine ZS Y ?_|refine ZG Y ?_|refine Zj Y Y (by omega) ?_|refine ZI ?_|refine ZP ?_|refine Zo ?_|refine ZJ ?_|refine ZL ?_|refine Zb ?_|refine Zc ?_|refine Zz ?_|refine Qk ?_|refine Za Y ?_|refine Z7 ?_|refine ZFK ?_|refine Zk ?_)
 ·rename_i hlt hn s hs' hbig
  have hs1:l[i]?=some s:=by rw[show i=((i:Nat):Int).toNat by omega];exact hs'
  refine ZBN hA (by simp) Y Y ?_
  refine (decide_eq_true (.inl ⟨s,?_,by omega⟩)).symm
  refine List.mem_iff_getElem?.2 ⟨i,?_⟩
  rw[List.getElem?_take,if_pos (by omega)];exact hs1
 ·rename_i hlt hn s hs' hbig
  have hs1:l[i]?=some s:=by rw[show i=((i:Nat):Int).toNat by omega];exact hs'
  refine⟨i+1,⟨rfl,rfl⟩,⟨by omega,by omega,fun j s2 hj h=>?_⟩,by omega⟩
  rcases Nat.lt_or_ge j i with q|q
  ·exact h3 j s2 q h
  ·obtain rfl:j=i:=by omega
   rw[hs1]at h
   have:=Option.some.inj h
   subst this;omega
 ·refine ZBN hA (by simp) Y Y ?_
  exact (decide_eq_true (.inr (by omega))).symm
 ·refine ZBN hA (by simp) Y Y ?_
  exact (decide_eq_true (.inr (by omega))).symm
 ·refine ZBN hA (by simp) Y Y ?_
  refine (decide_eq_false ?_).symm
  rintro (⟨s,h,hh⟩|h)
  ·have:=key (j:=0) (s:=s) (.inl (by omega)) h
   omega
  ·omega
theorem Zn4{l:List Ed}(h:¬ ZaO l):l.length<=60/\∀s∈l,s.text.length<=200:=by
 have h1:l.length<=60:=by
  rcases Nat.lt_or_ge 60 l.length with q|q
  ·exact absurd (.inr q) h
  ·exact q
 refine⟨h1,fun s hs=>?_⟩
 rcases Nat.lt_or_ge 200 s.text.length with q|q
 ·refine absurd (.inl ⟨s,?_,q⟩) h
  rw[List.take_of_length_le (by omega)];exact hs
 ·exact q
theorem Zn5{l:List B8}(h:¬ ZSr l):l.length<=4/\(l.map List.length).sum<=900:=by
 have h1:¬ 4<l.length:=fun q=>h (.inl q)
 have h2:¬ 900<ZE9 0 l:=fun q=>h (.inr q)
 have:=Zdt l 0 (by omega)
 exact⟨by omega,by omega⟩
end Go.Q15
namespace Go.QAbs
variable {w:AV}{e:Env}{f g:FuncId}{a z:Int}{A:List (Bool × List Blk)}{args caps:LV}{k:List Fr}{l:List Nat}{s s0:B8}{d i ix la lm mx n o ver:Nat}{v x:Opd}{O:Orc}{st:St}{Q:YD}
end Go.QAbs
namespace Go.Q15
open Go Go.QAbs
variable {w:AV}{e:Env}{f g:FuncId}{a z:Int}{A:List (Bool × List Blk)}{args caps:LV}{k:List Fr}{l:List Nat}{s s0:B8}{d i ix la lm mx n o ver:Nat}{v x:Opd}{O:Orc}{ro:Ro}{st:St}{t:Tr}{Q:YD}
def ZD8(r:AR)(o:Nat):Prop:=Yc o/\r.states[o % 65536]?=some 1/\r.gens[o % 65536]?=some ((o / 65536:Nat):Int)
instance (r:AR) (o:Nat):Decidable (ZD8 r o):=by unfold ZD8;exact inferInstance
def ZPE(r:AR)(o:Nat):Int:=if Yc o/\r.states[o % 65536]?=some 1 then ((o % 65536:Nat):Int) else 0
theorem Zrr{lv b:Nat}{r:AR}(h:HasR st lv b r)(hl:r.gens.length=r.states.length)(o:Nat)(ho:o<18446744073709551616):
 S Tb Xc [.ptr lv (b+3) 0 0 0,.int .u64 o] st=some (.tup [.int .i64 (ZPE r o),.bool (decide (ZD8 r o))],st):=by
 refine QK Y (fun A hA=>?_)
 have g3:=fun L=>ZQ hA (ro:=false) (L:=L) h.h3
 have g0:=fun L=>ZQ hA (ro:=false) (L:=L) h.h0
 have g2:=fun L=>ZQ hA (ro:=false) (L:=L) h.h2
 unfold AR.b3 at g3;unfold AR.b0 at g0;unfold AR.b2 at g2
 have hw0:∀L,wIs 1 0 (St.get ⟨A,false,L⟩ lv b)=true:=fun L=>by rw[g0];rfl
 have hw2:∀L,wIs 1 0 (St.get ⟨A,false,L⟩ lv (b+2))=true:=fun L=>by rw[g2];rfl
 by_cases hh:Yc o
 ·have hS:=fun st=>Znf o hh st
  have hG:=fun st=>ZqN o hh st
  rcases Nat.lt_or_ge (o % 65536) r.states.length with hlt|hge
  ·obtain⟨x,hx⟩:∃x,r.states[o % 65536]?=some x:=⟨_,jE hlt⟩
   obtain⟨y,hy⟩:∃x,r.gens[o % 65536]?=some x:=⟨_,jE (by omega)⟩
   have q0:(r.states.map (.int .u8))[0+((o % 65536:Nat):Int).toNat]?=some (AV.int .u8 x):=by
    rw[show 0+((o % 65536:Nat):Int).toNat=o % 65536 by omega,jG,hx];rfl
   have q2:(r.gens.map (.int .u64))[0+((o % 65536:Nat):Int).toNat]?=some (AV.int .u64 y):=by
    rw[show 0+((o % 65536:Nat):Int).toNat=o % 65536 by omega,jG,hy];rfl
   by_cases h1:x=1
   ·subst h1
    have e1:ZPE r o=((o % 65536:Nat):Int):=by unfold ZPE;rw[if_pos ⟨hh,hx⟩]
    by_cases h2:((o / 65536:Nat):Int)=y
    ·subst h2
     rw[e1,decide_eq_true (show ZD8 r o from ⟨hh,hx,hy⟩)]
     repeat'(first|refine ZE ?_|refine ZD ?_|refine ZF Y ?_|refine ZU Y Y ?_|refine QB Y ?_|refine Zl Y Y Y Y ?_|refine Zr Y Y ?_|refine ZB Y ?_|refine ZC ?_|refine Z2 Y Y ?_|refine Qf Y ?_|(refine cm0 Y Y Y ?_ ?_<;>intro _<;>try omega)|refine ZG Y ?_|refine ZA Y Y Y (hS _) ?_|refine ZA Y Y Y (hG _) ?_|refine Z5 Y (g3 _) Y Y ?_|refine YP Y Y (by omega) (hw0 _) ?_|refine YP Y Y (by omega) (hw2 _) ?_|refine Z5 Y (g0 _) q0 Y ?_|refine Z5 Y (g2 _) q2 Y ?_|refine ZI ?_|refine ZP ?_|refine ZL ?_)
     all_goals try omega
     all_goals try contradiction
     all_goals refine Zf hA (by simp) Y Y Y Y ?_
     all_goals rfl
    ·rw[e1,decide_eq_false (show ¬ ZD8 r o from fun q=>h2 (by have:=q.2.2;rw[hy]at this;exact (Option.some.inj this).symm))]
     repeat'(first|refine ZE ?_|refine ZD ?_|refine ZF Y ?_|refine ZU Y Y ?_|refine QB Y ?_|refine Zl Y Y Y Y ?_|refine Zr Y Y ?_|refine ZB Y ?_|refine ZC ?_|refine Z2 Y Y ?_|refine Qf Y ?_|(refine cm0 Y Y Y ?_ ?_<;>intro _<;>try omega)|refine ZG Y ?_|refine ZA Y Y Y (hS _) ?_|refine ZA Y Y Y (hG _) ?_|refine Z5 Y (g3 _) Y Y ?_|refine YP Y Y (by omega) (hw0 _) ?_|refine YP Y Y (by omega) (hw2 _) ?_|refine Z5 Y (g0 _) q0 Y ?_|refine Z5 Y (g2 _) q2 Y ?_|refine ZI ?_|refine ZP ?_|refine ZL ?_)
     all_goals try omega
     all_goals try contradiction
     all_goals refine Zf hA (by simp) Y Y Y Y ?_
     all_goals rfl
   ·have e1:ZPE r o=0:=by unfold ZPE;rw[if_neg (fun q=>h1 (by have:=q.2;rw[hx]at this;exact Option.some.inj this))]
    rw[e1,decide_eq_false (show ¬ ZD8 r o from fun q=>h1 (by have:=q.2.1;rw[hx]at this;exact Option.some.inj this))]
    repeat'(first|refine ZE ?_|refine ZD ?_|refine ZF Y ?_|refine ZU Y Y ?_|refine QB Y ?_|refine Zl Y Y Y Y ?_|refine Zr Y Y ?_|refine ZB Y ?_|refine ZC ?_|refine Z2 Y Y ?_|refine Qf Y ?_|(refine cm0 Y Y Y ?_ ?_<;>intro _<;>try omega)|refine ZS Y ?_|refine ZA Y Y Y (hS _) ?_|refine Z5 Y (g3 _) Y Y ?_|refine YP Y Y (by omega) (hw0 _) ?_|refine Z5 Y (g0 _) q0 Y ?_|refine ZP ?_|refine ZL ?_|refine Zb ?_)
    all_goals try omega
    all_goals try contradiction
    all_goals refine Zf hA (by simp) Y Y Y Y ?_
    all_goals rfl
  ·have hn:r.states[o % 65536]?=none:=List.getElem?_eq_none hge
   have e1:ZPE r o=0:=by unfold ZPE;rw[if_neg (fun q=>by rw[hn]at q;simp at q)]
   rw[e1,decide_eq_false (show ¬ ZD8 r o from fun q=>by have:=q.2.1;rw[hn]at this;simp at this)]
   repeat'(first|refine ZE ?_|refine ZD ?_|refine ZF Y ?_|refine ZU Y Y ?_|refine QB Y ?_|refine Q6 Y Y ?_|refine Zl Y Y Y Y ?_|refine Zr Y Y ?_|refine ZB Y ?_|refine ZC ?_|refine Z2 Y Y ?_|refine Qf Y ?_|(refine cm0 Y Y Y ?_ ?_<;>intro _<;>try omega)|refine ZS Y ?_|refine ZA Y Y Y (hS _) ?_|refine Z5 Y (g3 _) Y Y ?_|refine ZP ?_|refine ZL ?_|refine Zb ?_)
   all_goals try omega
   all_goals refine Zf hA (by simp) Y Y Y Y ?_
   all_goals rfl
 ·have hS:=fun st=>Zng o ho hh st
  have e1:ZPE r o=0:=by unfold ZPE;rw[if_neg (fun q=>hh q.1)]
  rw[e1,decide_eq_false (show ¬ ZD8 r o from fun q=>hh q.1)]
  repeat'(first|refine ZE ?_|refine ZD ?_|refine ZF Y ?_|refine Q6 Y Y ?_|refine Zl Y Y Y Y ?_|refine Zr Y Y ?_|refine ZB Y ?_|refine ZC ?_|(refine cm0 Y Y Y ?_ ?_<;>intro _<;>try omega)|refine ZS Y ?_|refine ZA Y Y Y (hS _) ?_|refine ZP ?_|refine ZL ?_|refine Zb ?_)
  all_goals try omega
  all_goals try contradiction
  all_goals refine Zf hA (by simp) Y Y Y Y ?_
  all_goals rfl
theorem Zqg{lv b:Nat}{r:AR}(h:HasR st lv b r)(hl:r.gens.length=r.states.length)(o:Nat)(ho:o<18446744073709551616):
 S Tb Xd [.ptr lv (b+3) 0 0 0,.int .u64 o] st=some (.bool (decide (ZD8 r o)),st):=by
 refine QK Y (fun A hA=>?_)
 have hs:=fun L=>Zrr (h.push hA (ro:=false) (L:=L)) hl o ho
 repeat'(first|refine ZE ?_|refine ZD ?_|refine ZF Y ?_|refine Zr Y Y ?_|refine ZB Y ?_|refine ZC ?_|refine ZG Y ?_|refine JA Y Y Y Y ?_|refine ZA Y Y Y (hs _) ?_|refine ZI ?_|refine ZP ?_|refine ZL ?_)
 refine Zf hA (by simp) Y Y Y Y ?_
 rfl
theorem Zrs{lv b:Nat}{r:AR}(h:HasR st lv b r)(hl:r.gens.length=r.states.length)(o:Nat)(ho:o<18446744073709551616):
 S Tb Yu [.ptr lv (b+5) 0 0 0,.int .u64 o] st=some (.bool (decide (ZD8 r o)),st):=by
 refine QK Y (fun A hA=>?_)
 have hs:=fun L=>Zqg (h.push hA (ro:=false) (L:=L)) hl o ho
 have g5:=fun L=>ZQ hA (ro:=false) (L:=L) h.h5
 unfold AR.b5 at g5
 repeat'(first|refine ZE ?_|refine ZD ?_|refine ZF Y ?_|refine ZU Y Y ?_|refine ZB Y ?_|refine ZC ?_|refine Z2 Y Y ?_|refine ZG Y ?_|refine JA Y Y Y Y ?_|refine ZA Y Y Y (hs _) ?_|refine Z5 Y (g5 _) Y Y ?_|refine ZI ?_|refine ZP ?_|refine ZL ?_)
 refine Zf hA (by simp) Y Y Y Y ?_
 rfl
theorem AROk.live{r:AR}(h:AROk r){x:Nd}(hx:lk r.nodes o=some x):ZD8 r o/\o<18446744073709551616:=by
 obtain⟨s,g,k1,k2,k3,k4⟩:=h.key o x hx;obtain⟨h1,h2⟩:=h.hnd hx
 have:=h.n16
 have hm:o % 65536=s:=by omega
 have hd:o / 65536=g:=by omega
 unfold ZD8;rw[hm,hd];refine⟨⟨h1,k3,k4⟩,?_⟩;unfold Yc at h1;omega
theorem Zn6{x:Nat}(h:l[i]?=some x):(l.map Z1)[0+((i:Nat):Int).toNat]?=some (.int .u64 x):=by
 rw[show 0+((i:Nat):Int).toNat=i by omega,jG,h];rfl
theorem Zhy{x h:Nat}(hx:l[i]?=some x)(hn:h∉l.take i)(e:x≠h):h∉l.take (i+1):=by
 rw[ZW hx,List.mem_append,List.mem_singleton]
 exact fun q=>q.elim hn fun q=>e q.symm
theorem ZkY{lv:Nat}(hn:n=l.length)(hg:st.get lv ix=some (.arr 1 ver (l.map Z1)))(hb:l.length<4294967296)(h:Nat):
 S Tb JC [.ref lv ix ver 0 n,.int .u64 h] st=some (.bool (decide (h∈l)),st):=by
 refine QK Y (fun A hA=>?_)
 subst hn
 have g:=fun L=>ZQ hA (ro:=false) (L:=L) hg
 have hw:∀L,wIs 1 ver (St.get ⟨A,false,L⟩ lv ix)=true:=fun L=>by rw[g];simp[wIs]
 repeat'(first|refine ZE ?_|refine ZD ?_|refine ZF Y ?_|refine ZB Y ?_|refine ZC ?_|refine ZJ ?_)
 refine Zt (α:=Nat) (fun i=>[(0,.ref lv ix ver 0 l.length),(1,.int .u64 h),(5,.int .i64 i)]) (fun i=>⟨A,false,[]⟩) (fun i=>i<=l.length/\h∉l.take i) (fun i=>l.length-i) 0 Y Y ⟨by omega,by simp⟩ ?_
 rintro i ⟨hi,hni⟩
 rcases Nat.lt_or_ge i l.length with hlt|hge
 ·obtain⟨x,hx⟩:∃x,l[i]?=some x:=⟨l[i]'hlt,jE _⟩
  have q:=Zn6 hx
  repeat'(first|refine ZE ?_|refine ZD ?_|refine ZF Y ?_|refine ZB Y ?_|refine ZC ?_|refine Qf Y ?_|(refine cm0 Y Y Y ?_ ?_<;>intro _<;>try omega)|refine ZS Y ?_|refine ZG Y ?_|refine Zj Y Y (by omega) ?_|refine YP Y Y (by omega) (hw _) ?_|refine Z5 Y (g _) q Y ?_|refine ZI ?_|refine ZP ?_|refine ZJ ?_|refine ZL ?_|refine Zb ?_|refine Zz ?_|refine Qk ?_|refine Z7 ?_|refine ZFK ?_)
  all_goals try omega
  ·rename_i e
   obtain rfl:x=h:=by omega
   rw[decide_eq_true (jM hx)]
   refine Zf hA (by simp) Y Y Y Y ?_
   rfl
  ·rename_i e
   exact⟨i+1,⟨rfl,rfl⟩,⟨by omega,Zhy hx hni (by omega)⟩,by omega⟩
 ·obtain rfl:i=l.length:=by omega
  rw[List.take_length]at hni;rw[decide_eq_false hni]
  repeat'(first|refine ZE ?_|refine ZD ?_|refine ZF Y ?_|refine ZB Y ?_|refine ZC ?_|refine Qf Y ?_|(refine cm0 Y Y Y ?_ ?_<;>intro _<;>try omega)|refine ZG Y ?_|refine ZP ?_|refine Zo ?_|refine ZL ?_|refine Zc ?_|refine Za Y ?_|refine Zk ?_)
  all_goals try omega
  refine Zf hA (by simp) Y Y Y Y ?_
  rfl
theorem ZkZ(l:List Nat)(hb:l.length<4294967296)(h:Nat)(st:St):
 S Tb JC [.lit (l.map Z1),.int .u64 h] st=some (.bool (decide (h∈l)),st):=by
 refine QK Y (fun A hA=>?_)
 repeat'(first|refine ZE ?_|refine ZD ?_|refine ZF Y ?_|refine ZB Y ?_|refine ZC ?_|refine ZJ ?_)
 refine Zt (α:=Nat) (fun i=>[(0,.lit (l.map Z1)),(1,.int .u64 h),(5,.int .i64 i)]) (fun i=>⟨A,false,[]⟩) (fun i=>i<=l.length/\h∉l.take i) (fun i=>l.length-i) 0 Y Y ⟨by omega,by simp⟩ ?_
 rintro i ⟨hi,hni⟩
 rcases Nat.lt_or_ge i l.length with hlt|hge
 ·obtain⟨x,hx⟩:∃x,l[i]?=some x:=⟨l[i]'hlt,jE _⟩
  have q:0<=((i:Nat):Int)/\l[((i:Nat):Int).toNat]?=some x:=⟨by omega,by rw[show ((i:Nat):Int).toNat=i by omega];exact hx⟩
  repeat'(first|refine QY Y Y q (fun _=>rfl) ?_|refine ZE ?_|refine ZD ?_|refine ZF Y ?_|refine ZB Y ?_|refine ZC ?_|refine QL Y ?_|refine QF Y Y ?_|(refine cm0 Y Y Y ?_ ?_<;>intro _<;>try omega)|refine ZS Y ?_|refine ZG Y ?_|refine Zj Y Y (by omega) ?_|refine ZI ?_|refine ZP ?_|refine ZJ ?_|refine ZL ?_|refine Zb ?_|refine Zz ?_|refine Qk ?_|refine Z7 ?_|refine ZFK ?_)
  all_goals try omega
  ·rename_i e
   obtain rfl:x=h:=by omega
   rw[decide_eq_true (jM hx)]
   refine Zf hA (by simp) Y Y Y Y ?_
   rfl
  ·rename_i e
   exact⟨i+1,⟨rfl,rfl⟩,⟨by omega,Zhy hx hni (by omega)⟩,by omega⟩
 ·obtain rfl:i=l.length:=by omega
  rw[List.take_length]at hni;rw[decide_eq_false hni]
  repeat'(first|refine ZE ?_|refine ZD ?_|refine ZF Y ?_|refine ZB Y ?_|refine ZC ?_|refine QL Y ?_|(refine cm0 Y Y Y ?_ ?_<;>intro _<;>try omega)|refine ZG Y ?_|refine ZP ?_|refine Zo ?_|refine ZL ?_|refine Zc ?_|refine Za Y ?_|refine Zk ?_)
  all_goals try omega
  refine Zf hA (by simp) Y Y Y Y ?_
  rfl
def ltL(n:Nat)(r:AR)(v:Nat)(ros:List Ro)(G0:List Blk)(w:Nat)(ss:List B8)(G1:List Blk):List Blk :=
 r.b0::r.b1::r.b2::r.b3 n 0::r.b4::r.b5 n 0::.arr 5 v (ros.map Ro.av)::(G0++.arr 1 w (ss.map .str)::G1)
section
variable {A:List (Bool × List Blk)}{r:AR}{v:Nat}{ros:List Ro}{G0:List Blk}{w:Nat}{ss:List B8}{G1:List Blk}
theorem ZaP:Has ⟨A,false,ltL A.length r v ros G0 w ss G1⟩ A.length 0 r:=ZBU A [] (.arr 5 v (ros.map Ro.av)::(G0++.arr 1 w (ss.map .str)::G1)) r
theorem ZrA:Rd ⟨A,false,ltL A.length r v ros G0 w ss G1⟩ A.length 5 r.nodes:=(ZaP).r.rd
theorem Zrt(r':AR):Qh ⟨A,false,ltL A.length r v ros G0 w ss G1⟩ A.length 0 r'=⟨A,false,ltL A.length r' v ros G0 w ss G1⟩:=ZPA A [] (.arr 5 v (ros.map Ro.av)::(G0++.arr 1 w (ss.map .str)::G1)) r r'
theorem Zru:(ltL n r v ros G0 w ss G1)[6]?=some (.arr 5 v (ros.map Ro.av)):=rfl
theorem lt_7:(ltL n r v ros G0 w ss G1)[7+G0.length]?=some (.arr 1 w (ss.map .str)):=by
 rw[show 7+G0.length=G0.length+7 by omega]
 show (G0++.arr 1 w (ss.map .str)::G1)[G0.length]?=_
 exact ZR9 _ _ _
theorem Zn7(b:Blk):ltL n r v ros G0 w ss G1++[b]=ltL n r v ros G0 w ss (G1++[b]):=by simp[ltL]
theorem Zqh(v':Nat)(x:Ro):(ltL n r v ros G0 w ss G1).set 6 (.arr 5 v' (ros.map Ro.av++[x.av]))=ltL n r v' (ros++[x]) G0 w ss G1:=by
 unfold ltL;rw[List.map_append];rfl
theorem Zqi(w':Nat)(s:B8):(ltL n r v ros G0 w ss G1).set (7+G0.length) (.arr 1 w' (ss.map .str++[.str s]))=ltL n r v ros G0 w' (ss++[s]) G1:=by
 rw[show 7+G0.length=G0.length+7 by omega]
 unfold ltL;simp only[List.set_cons_succ,List.map_append]
 rw[show (G0++Blk.arr 1 w (ss.map .str)::G1).set G0.length (Blk.arr 1 w' (ss.map .str++[AV.str s]))=G0++Blk.arr 1 w' (ss.map .str++[AV.str s])::G1 by simp]
 rfl
end
theorem ZjS{ys:List Ed}{y:Ed}(h:ys[i]?=some y):((ys.map Ed.av).drop i).take (i+1-i)=[y].map Ed.av:=by
 rw[<- List.map_drop,<- List.map_take,show i+1-i=1 by omega]
 obtain⟨h1,h2⟩:=List.getElem?_eq_some_iff.1 h;rw[List.drop_eq_getElem_cons h1,h2];rfl
theorem Zn8(ys:List Ed):Q8 5 (ys.map Ed.av)=true:=by
 induction ys with
 | nil=>rfl
 | cons b s ih=>rw[jC,Q8,List.all_cons];exact Bool.and_eq_true_iff.2 ⟨rfl,ih⟩
theorem Zka{keep:List Nat}{is:List QAbs.PI}{ys:List Ed}{y:Ed}{a b:Opd}(hx:Ze e x=some (.lit (ys.map Ed.av)))(ha:Ze e a=some (.int .i64 i))(hb:Ze e b=some (.int .i64 z))(hz:z=i+1)(hy:ys[i]?=some y)
 (h:Is O is keep k Q ((d,.lit ([y].map Ed.av))::e) st):Is O (⟨some d,none,false,.slc 5 x (some a) (some b)⟩::is) keep k Q e st:=by
 have hlt:=(List.getElem?_eq_some_iff.1 hy).1;refine ZeT (r:=i+1) (l:=i) hx ?_ ?_ (Zn8 _) ?_
 ·simp only[ZDc,ZH hb,Je,List.length_map]
  rw[if_pos (by omega)];congr 1;omega
 ·simp only[ZDc,ZH ha,Je]
  rw[if_pos (by omega)];rfl
 ·rw[ZjS hy];exact h
theorem Zrv{texts:List B8}{ys:List Ed}(hl:¬ ZSr texts)(hm:¬ ZaO ys):(texts.flatten.length<=900/\texts.length<=4)/\ys.length<=60/\∀y∈ys,y.text.length<=200:=by
 refine⟨?_,Zn4 hm⟩
 have:=Zn5 hl
 rw[List.length_flatten];omega
theorem ZjT{texts:List B8}(h9:texts.flatten.length<=900):∀s∈texts,s.length<=900:=by
 intro s hs;obtain⟨i,hi,rfl⟩:=List.getElem_of_mem hs;have h1:=ZaK (l:=texts) (jE hi);have h2:=ZO9 texts (i+1);rw[h1,lL]at h2;omega
theorem Zhz:∀(n:Nat) (l:List Nat),l.Nodup->(∀x∈l,x<n)->l.length<=n:=by
 intro n
 induction n with
 | zero=>intro l _ h;cases l with
  | nil=>exact Nat.le_refl _
  | cons a l=>have:=h a (by simp);omega
 | succ n ih =>
  intro l hd h
  by_cases hm:n∈l
  ·have := ih (l.erase n) (hd.erase n) (fun x hx => by
    have h1:=h x (List.mem_of_mem_erase hx)
    have h2:x≠n:=fun e=>by subst e;exact hd.not_mem_erase hx
    omega)
   rw[List.length_erase_of_mem hm]at this;omega
  ·have := ih l hd (fun x hx => by
    have h1:=h x hx
    have h2:x≠n:=fun e=>hm (e▸hx)
    omega)
   omega
theorem AROk.few{r:AR}(h:AROk r)(hd:l.Nodup)(hl:∀o∈l,∃x,lk r.nodes o=some x):l.length<=16384:=by
 have h16:=h.n16
 have key:∀o∈l,ZD8 r o:=fun o ho=>by obtain⟨x,hx⟩:=hl o ho;exact (h.live hx).1
 have h1:(l.map (· % 65536)).Nodup:=by
  unfold List.Nodup at hd ⊢;rw[List.pairwise_map]
  refine hd.imp_of_mem (fun {p o} hp ho hne e=>hne ?_)
  have a:=(key p hp).2.2;have c:=(key o ho).2.2;rw[e,c]at a
  have:=Option.some.inj a
  omega
 have:=Zhz r.states.length _ h1 (fun x hx=>by
  obtain⟨o,ho,rfl⟩:=List.mem_map.1 hx
  exact (List.getElem?_eq_some_iff.1 (key o ho).2.1).1)
 rw[List.length_map]at this;omega
theorem Zn9(texts:List B8)(hl:texts.flatten.length<=900):∀i,i<=texts.length->(Yl (texts.take i)).1.nodes.length+(Yl (texts.take i)).1.n=1500:=by
 intro i
 induction i with
 | zero=>intro _;simp[Yl,Q7]
 | succ i ih =>
  intro hi
  obtain⟨s,hs⟩:∃s,texts[i]?=some s:=⟨texts[i]'(by omega),by simp[show i<texts.length by omega]⟩
  have hl2:=ZO9 texts (i+1)
  have h:=ZPC texts hl i (by omega)
  obtain⟨hn,_⟩:=ZPB (s:=s) h (by rw[<- ZW hs];omega)
  have hfl:=ZaK hs
  have hs2:s.length<=900:=by rw[hfl,lL]at hl2;omega
  obtain⟨b1,b2,b3⟩:=Xw h.good (show s.length<=65536 by omega)
  obtain⟨w1,_⟩:=Zdr (ZBU [] [] [] _) h.ok h.good b1 (by rw[b3];omega) hn
  have h1:=w1.n;have h2:=w1.nl
  have h3:=ih (by omega)
  rw[ZW hs,ZGZ]
  show (wrV (Qt s) _).1.nodes.length+(wrV (Qt s) _).1.n=1500
  omega
theorem ZoA{N:ZO}(hN:GoodN N){ros:List Ro}(h:PlanOk N ros){y:Ed}(hy:y.text.length<=200){B:Int}(hB:0<=B)(hr:∀r∈ros,r.m.b<=B):(ZDa N ros y).bytes<=B+200:=by
 unfold ZDa
 match hq:Zds ros y.n with
 | none =>
  obtain⟨b1,b2,b3⟩:=Xw hN (s:=y.text) (by omega)
  show (Qt y.text).bytes<=_;omega
 | some r =>
  have hm:=jM (show ros[_]?=some r from hq)
  obtain⟨h1,h2,h3,h4⟩:=h.rt r hm;have h5:=hr r hm;have p1:=Qc (x:=y.at_) h3
  have p2:=Qc (x:=y.len) (n:=r.m.b-Q0 y.at_ r.m.b) (by omega)
  have:=ZOy hN (s:=y.text) h1.keep (a:=Q0 y.at_ r.m.b) (n:=Q0 y.len (r.m.b-Q0 y.at_ r.m.b)) p1.1 p2.1 (by omega) (by omega) (by omega)
  show (Tr.own _).bytes<=_
  rw[ZCl,this.bytes];omega
namespace Tr
mutual
theorem wr_sl:∀(t:Tr) (r:AR),(t.wr r).1.states.length=r.states.length/\(t.wr r).1.slots=r.slots
 | .mk o h m s k,r=>by
  unfold wr
  by_cases ho:o≠0
  ·rw[if_pos ho];exact⟨rfl,rfl⟩
  ·rw[if_neg ho]
   by_cases hh:h=0
   ·rw[if_pos hh];exact⟨by simp[AR.add,AR.alloc,AR.take],rfl⟩
   ·rw[if_neg hh]
    obtain⟨h1,h2⟩:=Zrw k r
    exact⟨by simp[AR.add,AR.alloc,AR.take,h1],by simp[AR.add,AR.alloc,AR.take,h2]⟩
theorem Zrw:∀(k:Option (List Tr)) (r:AR),(wrO k r).1.states.length=r.states.length/\(wrO k r).1.slots=r.slots
 | none,r=>by unfold wrO;exact⟨rfl,rfl⟩
 | some l,r=>by unfold wrO;exact ZoB l r
theorem ZoB:∀(l:List Tr) (r:AR),(wrL l r).1.states.length=r.states.length/\(wrL l r).1.slots=r.slots
 | [],r=>by unfold wrL;exact⟨rfl,rfl⟩
 | t::l,r=>by
  unfold wrL;obtain⟨h1,h2⟩:=wr_sl t r;obtain⟨h3,h4⟩:=ZoB l (t.wr r).1;exact⟨h3.trans h1,h4.trans h2⟩
end
end Tr
theorem ZoC(t:Tr)(r:AR):(wrV t r).1.states.length=r.states.length/\(wrV t r).1.slots=r.slots:=by
 unfold wrV
 split
 ·exact⟨rfl,rfl⟩
 ·exact t.wr_sl r
theorem ZoD(texts:List B8):(Yl texts).1.slots=1500/\(Yl texts).1.states.length=1500:=by
 unfold Yl
 suffices h:∀(l:List B8) (p:AR × List Ro),p.1.slots=1500/\p.1.states.length=1500->(l.foldl ZaN p).1.slots=1500/\(l.foldl ZaN p).1.states.length=1500 from h _ _ ⟨rfl,by simp[Q7]⟩
 intro l
 induction l with
 | nil=>intro p h;exact h
 | cons s l ih =>
  intro p h;rw[List.foldl_cons];refine ih _ ?_
  have:=ZoC (Qt s) p.1
  exact⟨this.2.trans h.1,this.1.trans h.2⟩
def KdP(r:AR):Prop:=∃l:List Nat,l.Nodup/\(∀h∈l,∃x,lk r.nodes h=some x)/\l.length=r.nodes.length
theorem KdP.wr{r r':AR}{c:Nat}{hs:List Nat}(h:KdP r)(w:WrB r c r' hs):KdP r':=by
 obtain⟨l,h1,h2,h3⟩:=h
 refine⟨l++hs,?_,fun o ho=>?_,?_⟩
 ·rw[List.nodup_append]
  refine⟨h1,w.nodup,fun a ha b hb e=>?_⟩
  subst e;obtain⟨x,hx⟩:=h2 a ha
  have:=w.new a hb
  rw[hx]at this;simp at this
 ·rcases List.mem_append.1 ho with q|q
  ·obtain⟨x,hx⟩:=h2 o q
   exact⟨x,w.ext o x hx⟩
  ·exact w.has o q
 ·rw[lL,h3,w.nl,w.len]
theorem ZoE(texts:List B8)(hl:texts.flatten.length<=900):∀i,i<=texts.length->KdP (Yl (texts.take i)).1:=by
 intro i
 induction i with
 | zero=>intro _;exact⟨[],.nil,by simp,by simp[Yl,Q7]⟩
 | succ i ih =>
  intro hi
  obtain⟨s,hs⟩:∃s,texts[i]?=some s:=⟨texts[i]'(by omega),by simp[show i<texts.length by omega]⟩
  have hl2:=ZO9 texts (i+1)
  have h:=ZPC texts hl i (by omega)
  obtain⟨hn,_⟩:=ZPB (s:=s) h (by rw[<- ZW hs];omega)
  have hfl:=ZaK hs
  have hs2:s.length<=900:=by rw[hfl,lL]at hl2;omega
  obtain⟨b1,b2,b3⟩:=Xw h.good (show s.length<=65536 by omega)
  obtain⟨w1,_⟩:=Zdr (ZBU [] [] [] _) h.ok h.good b1 (by rw[b3];omega) hn
  rw[ZW hs,ZGZ]
  exact (ih (by omega)).wr w1
structure MkInv(r:AR)(ros:List Ro)(ss:List B8)(n:Nat)(B:Nat):Prop where
 ok:AROk r
 good:GoodN r.nodes
 rts:Rts r.nodes ros ss
 len:ros.length=n
 n20:n<=20
 small:∀s∈ss,s.length<=B
 nl:r.nodes.length+r.n=1500
 sl:r.slots=1500/\r.states.length=1500
 kd:KdP r
theorem MkInv.plan{r:AR}{ros:List Ro}{ss:List B8}{n B:Nat}(h:MkInv r ros ss n B)(hB:B<=60000):PlanOk r.nodes ros:=h.rts.plan h.good (by have:=h.len;have:=h.n20;omega) (fun s hs=>by have:=h.small s hs;omega)
theorem MkInv.mb{r:AR}{ros:List Ro}{ss:List B8}{n B:Nat}(h:MkInv r ros ss n B):∀ro∈ros,ro.m.b<=(B:Int):=by
 intro ro hr;obtain⟨i,hi,rfl⟩:=List.getElem_of_mem hr
 have hi2:i<ss.length:=by rw[<- h.rts.1];exact hi
 have g:=h.rts.2 i _ _ (jE hi) (jE hi2)
 have:=(g.b h.good).2
 have:=h.small _ (List.getElem_mem hi2)
 omega
theorem Zrx(texts:List B8)(ys:List Ed)(h9:texts.flatten.length<=900/\texts.length<=4)(hy12:ys.length<=12)(hys:∀y∈ys,y.text.length<=200)(A:List (Bool × List Blk)):
 Sp Tb Yr [.lit (texts.map .str),.lit (ys.map Ed.av)] ⟨A,false,[]⟩ (fun v st'=>∃r c ros ss G0 G1 n,v=.tup [.ptr A.length 5 0 0 0,.ref A.length 6 n 0 n,.ref A.length (7+G0.length) c 0 n,.bool true]/\st'=⟨A,false,ltL A.length r n ros G0 c ss G1⟩/\MkInv r ros ss n 3300):=by
 refine Zj0 (rfl:Tb Yr=some (.pf ZAT)) ?_;have hLd:=Zrp texts h9.1 h9.2 A [];have hLok:=ZPC texts h9.1 texts.length (Nat.le_refl _);have hnl0:=Zn9 texts h9.1 texts.length (Nat.le_refl _);rw[List.take_length]at hLok hnl0;have hsl0:=ZoD texts;have hkd0:=ZoE texts h9.1 texts.length (Nat.le_refl _);rw[List.take_length]at hkd0;have hrl:=hLok.rts.1;obtain⟨r0,ros0,hV⟩:∃r0 ros0,Yl texts=(r0,ros0):=⟨_,_,rfl⟩;rw[hV]at hLd hLok hrl hnl0 hsl0 hkd0
 simp only at hLd hLok hrl hnl0 hsl0 hkd0
 have hG:(ZEP ros0).length=texts.length:=by unfold ZEP;rw[List.length_map,hrl]
 generalize ZEP ros0=G0 at *
 change S Tb Yt [.lit (texts.map .str)] ⟨A,false,[]⟩=some (.tup [.ptr A.length 5 0 0 0,.ref A.length 6 texts.length 0 texts.length,.bool true],⟨A,false,r0.b0::r0.b1::r0.b2::r0.b3 A.length 0::r0.b4::r0.b5 A.length 0::.arr 5 texts.length (ros0.map Ro.av)::G0⟩) at hLd
 repeat'(first|refine ZE ?_|refine ZD ?_|refine ZF Y ?_|refine Zr Y Y ?_|refine ZB Y ?_|refine ZC ?_|refine ZG Y ?_|refine JW Y Y ?_|refine QX Y Y Y Y ?_|refine ZA Y Y Y (hLd) ?_|refine ZI ?_)
 all_goals try contradiction
 refine ZGV (vx:=.lit (texts.map .str)) (ys:=texts.map .str) (bytes:=16) Y Y Y (by rw[List.length_map];omega) (by decide) (Zli _) ?_
 repeat'(first|refine ZE ?_|refine ZD ?_|refine ZF Y ?_|refine ZB Y ?_|refine ZC ?_|refine ZJ ?_)
 have hl7:(r0.b0::r0.b1::r0.b2::r0.b3 A.length 0::r0.b4::r0.b5 A.length 0::Blk.arr 5 texts.length (ros0.map Ro.av)::G0).length=7+G0.length:=by simp;omega
 rw[hl7,List.length_map]
 refine Zt (α:=Nat × Nat × AR × List Ro × List B8 × List Blk) (fun q=>[(1,.lit (ys.map Ed.av)),(8,.ptr A.length 5 0 0 0),(9,.ref A.length 6 (texts.length+q.2.1) 0 (texts.length+q.2.1)),(11,.ref A.length (7+G0.length) q.2.1 0 (texts.length+q.2.1)),(12,.int .i64 q.1)])
  (fun q=>⟨A,false,ltL A.length q.2.2.1 (texts.length+q.2.1) q.2.2.2.1 G0 q.2.1 q.2.2.2.2.1 q.2.2.2.2.2⟩) (fun q=>q.1<=ys.length/\q.2.1<=q.1/\MkInv q.2.2.1 q.2.2.2.1 q.2.2.2.2.1 (texts.length+q.2.1) (900+200*q.1)) (fun q=>ys.length-q.1) (0,0,r0,ros0,texts,[]) rfl rfl ⟨Nat.zero_le _,Nat.zero_le _,hLok.ok,hLok.good,hLok.rts,hrl,by simp only;omega,ZjT h9.1,hnl0,hsl0,hkd0⟩ ?_
 rintro⟨i,c,r,ros,ss,G1⟩ ⟨hi,hci,hI⟩
 simp only at hi hci hI ⊢
 have hsl:=hI.rts.1;have hrs:=hI.len
 rcases Nat.lt_or_ge i ys.length with hlt|hge
 ·obtain⟨y,hyi⟩:∃y,ys[i]?=some y:=⟨ys[i]'(by omega),by simp[hlt]⟩
  have hy2:=hys y (jM hyi)
  have hP:PlanOk r.nodes ros:=hI.plan (by omega)
  obtain⟨hv,hvb⟩:=Zn2 hI.good hP hy2
  have hvs:=ZoA hI.good hP hy2 (B:=((900+200*i:Nat):Int)) (by omega) hI.mb
  have hPl:=fun L (hR:Rd ⟨A,false,L⟩ A.length 5 r.nodes) (hg:St.get ⟨A,false,L⟩ A.length 6=some (.arr 5 (texts.length+c) (ros.map Ro.av)))=>Zqf (b:=0) hI.good hR hg hP (ys:=[y]) (by simp) (fun z hz=>by rw[List.mem_singleton]at hz;rw[hz];exact hy2)
  have hPl:=hPl _ ZrA (Zf6 (Zru (r:=r) (v:=texts.length+c) (G0:=G0) (w:=c) (ss:=ss) (G1:=G1)) rfl)
  have hTx:=Zrf hI.good (ZrA (A:=A) (r:=r) (v:=texts.length+c) (ros:=ros) (G0:=G0) (w:=c) (ss:=ss) (G1:=G1)) hv (by omega)
  have hln:=hv.len hI.good;simp only[jC,List.map_nil]at hPl;rw[hrs]at hPl
  generalize hT:ZDa r.nodes ros y=t at *
  rcases Nat.lt_or_ge r.n (nw t) with hfull|hroom
  ·have hWr:=ZjR (ZaP (A:=A) (r:=r) (v:=texts.length+c) (ros:=ros) (G0:=G0) (w:=c) (ss:=ss) (G1:=G1)) hI.ok hI.good hv (by omega) hfull
   have eb:=Zn7 (n:=A.length) (r:=r) (v:=texts.length+c) (ros:=ros) (G0:=G0) (w:=c) (ss:=ss) (G1:=G1) (.arr 5 0 [Ro.zero.av])
   generalize ltL A.length r (texts.length+c) ros G0 c ss G1=L1 at *
   repeat'(first|refine JG Y ?_|refine Zka Y Y Y Y hyi ?_|refine QY (f:=Tr.av) (l:=[t]) Y Y ⟨by decide,rfl⟩ Z6 ?_|refine ZE ?_|refine ZD ?_|refine ZF Y ?_|refine Zr Y Y ?_|refine ZB Y ?_|refine ZC ?_|(refine cm0 Y Y Y ?_ ?_<;>intro _<;>try omega)|(refine cm0 Y Y Y ?_ ?_<;>intro _<;>try omega)|(refine cm0 Y Y Y ?_ ?_<;>intro _<;>try omega)|refine ZS Y ?_|refine ZG Y ?_|refine JW Y Y ?_|refine Zj Y Y (by omega) ?_|refine Z0 Y Y Y ?_|refine J9 Y Y Y Y Y Y ?_|refine QF Y (Zp _) ?_|refine ZA Y Y (by first|rfl|(simp only[lE,lN,lC,Zg,ZX,ZY];first|done|rfl)) (hPl) ?_|refine ZA Y Y (by first|rfl|(simp only[lE,lN,lC,Zg,ZX,ZY];first|done|rfl)) (hTx) ?_|refine ZA Y Y (by first|rfl|(simp only[lE,lN,lC,Zg,ZX,ZY];first|done|rfl)) (hWr) ?_|refine ZI ?_|refine Zo ?_|refine ZJ ?_|refine Zc ?_|refine Za Y ?_|refine Z7 ?_)
   all_goals try first|contradiction|omega
   refine⟨(i+1,c,r,ros,ss,G1++[Blk.arr 5 0 [Ro.zero.av]]),⟨rfl,?_⟩,⟨by simp only;omega,by simp only;omega,hI.ok,hI.good,hI.rts,hrs,hI.n20,fun s hs=>by have:=hI.small s hs;simp only;omega,hI.nl,hI.sl,hI.kd⟩,by simp only;omega⟩
   exact congrArg (St.mk A false) eb
  ·have hWr:=Zf7 (ZaP (A:=A) (r:=r) (v:=texts.length+c) (ros:=ros) (G0:=G0) (w:=c) (ss:=ss) (G1:=G1)) hI.ok hI.good hv (by omega) hroom
   rw[Zrt]at hWr
   obtain⟨w1,w2⟩:=Zdr (ZaP (A:=A) (r:=r) (v:=texts.length+c) (ros:=ros) (G0:=G0) (w:=c) (ss:=ss) (G1:=G1)) hI.ok hI.good hv (by omega) hroom
   have f6:(ltL A.length (wrV t r).1 (texts.length+c) ros G0 c ss G1)[6]?=_:=Zru;have f7:(ltL A.length (wrV t r).1 (texts.length+c) ros G0 c ss G1)[7+G0.length]?=_:=lt_7;have n1:=w1.n;have n2:=w1.nl;have n3:=hI.nl;have n4:=hI.n20;have v1:=ZoC t r;have v2:=hI.sl;have v3:=hI.kd.wr w1
   generalize hL2:ltL A.length (wrV t r).1 (texts.length+c) ros G0 c ss G1=L2 at *
   generalize ltL A.length r (texts.length+c) ros G0 c ss G1=L1 at *
   generalize (wrV t r).1=r2 at *
   generalize (wrV t r).2.1=ro at *
   generalize (wrV t r).2.2=hh at *
   generalize hTT:t.txt r.nodes=T at *
   have hl6:=(List.getElem?_eq_some_iff.1 f6).1;have hl7':=(List.getElem?_eq_some_iff.1 f7).1
   repeat'(first|refine JG Y ?_|refine Zka Y Y Y Y hyi ?_|refine QY (f:=Tr.av) (l:=[t]) Y Y ⟨by decide,rfl⟩ Z6 ?_|refine ZE ?_|refine ZD ?_|refine ZF Y ?_|refine Zr Y Y ?_|refine ZB Y ?_|refine ZC ?_|refine Ql Y Y Y ?_|(refine cm0 Y Y Y ?_ ?_<;>intro _<;>try omega)|(refine cm0 Y Y Y ?_ ?_<;>intro _<;>try omega)|(refine cm0 Y Y Y ?_ ?_<;>intro _<;>try omega)|refine ZS Y ?_|refine ZG Y ?_|refine JW Y Y ?_|refine Zj Y Y (by omega) ?_|refine Z0 Y Y Y ?_|refine J9 Y Y Y Y Y Y ?_|refine QX Y Y Y Y ?_|refine QF Y (Zp _) ?_|refine ZA Y Y (by first|rfl|(simp only[lE,lN,lC,Zg,ZX,ZY];first|done|rfl)) (hPl) ?_|refine ZA Y Y (by first|rfl|(simp only[lE,lN,lC,Zg,ZX,ZY];first|done|rfl)) (hTx) ?_|refine ZA Y Y (by first|rfl|(simp only[lE,lN,lC,Zg,ZX,ZY];first|done|rfl)) (hWr) ?_|refine ZI ?_|refine ZJ ?_)
   all_goals try first|contradiction|omega
   refine ZBT (es:=ros.map Ro.av) (ys:=[ro.av]) Y Y (ZAu f6) (by rw[List.length_map];omega) rfl rfl (by rw[List.length_map,List.length_singleton];omega) (by decide) ?_
   repeat'(first|refine ZD ?_|refine ZF Y ?_|refine ZB Y ?_|refine ZC ?_|refine QX Y Y Y Y ?_)
   refine ZBT (es:=ss.map .str) (ys:=[.str T]) Y Y ((jS (by omega)).trans (ZAu f7)) (by rw[List.length_map];omega) rfl rfl (by rw[List.length_map,List.length_singleton];omega) (by decide) ?_
   repeat'(first|refine ZD ?_|refine ZF Y ?_|refine ZB Y ?_|refine ZC ?_|refine Zj Y Y (by omega) ?_|refine Zz ?_|refine Z7 ?_)
   refine⟨(i+1,c+1,r2,ros++[ro],ss++[T],G1++[.arr 5 0 [ro.av]]),⟨rfl,?_⟩,⟨by simp only;omega,by simp only;omega,w1.ok,w1.good,(hI.rts.ext hI.good w1.ext).snoc w2,by simp only[lL,List.length_singleton];omega,by simp only;omega,fun s hs=>?_,by simp only;omega,⟨v1.2.trans v2.1,v1.1.trans v2.2⟩,v3⟩,by simp only;omega⟩
   ·show (⟨A,false,((L2++[Blk.arr 5 0 [ro.av]]).set 6 (Blk.arr 5 (texts.length+c+1) (ros.map Ro.av++[ro.av]))).set (7+G0.length) (Blk.arr 1 (c+1) (ss.map AV.str++[AV.str T]))⟩:St)=_
    rw[<- hL2,Zn7,Zqh,Zqi];rfl
   ·rcases List.mem_append.1 hs with q|q
    ·have:=hI.small s q;simp only;omega
    ·rw[List.mem_singleton.1 q];simp only;omega
 ·obtain rfl:i=ys.length:=by omega
  repeat'(first|refine JG Y ?_|refine ZE ?_|refine ZD ?_|refine ZF Y ?_|refine ZB Y ?_|refine ZC ?_|(refine cm0 Y Y Y ?_ ?_<;>intro _<;>try omega)|refine ZG Y ?_|refine ZP ?_|refine Zo ?_|refine ZL ?_|refine Zc ?_|refine Za Y ?_|refine Zk ?_)
  all_goals try omega
  refine⟨_,_,YG (.inr Y) Y Y Y Y,r,c,ros,ss,G0,G1,texts.length+c,rfl,rfl,hI.ok,hI.good,hI.rts,hrs,hI.n20,fun s hs=>?_,hI.nl,hI.sl,hI.kd⟩
  have:=hI.small s hs
  omega
def bel(N:ZO):Nat->Nat->List Nat->List Nat
 | 0,h,s=>if h∈s then s else s++[h]
 | n+1,h,s=>if h∈s then s else (ZBH N h).ks.foldl (fun s k=>bel N n k.at_ s) (s++[h])
structure Visit(τ:List Nat->List Nat->St)(lm mx:Nat)(g:FuncId)(caps:LV):Prop where
 len:∀u w u' w',(τ u w).ps.length=(τ u' w').ps.length
 wr:∀u w,(τ u w).wr lm
 get:∀u w,(τ u w).get lm mx=some (.map (YW u))
 upd:∀u w v,(τ u w).upd lm mx (.map (YW v))=τ v w
 call:∀u w h more L,w.length<1000000000->∃v,S Tb g ([.int .u64 (h:Nat)]++caps) ⟨(τ u w).ps++more,false,L⟩=some (v,⟨(τ u (w++[h])).ps++more,false,L⟩)
 wk:∀h:Nat,ZY (Zg ([]++[.int .u64 (h:Nat)]++caps))=some ([.int .u64 (h:Nat)]++caps)
 wk2:∀la b h:Nat,ZY (Zg ([]++[.ptr la b 0 0 0,.int .u64 (h:Nat),.map lm mx,.func (.func g) [] caps]++[]))=some [.ptr la b 0 0 0,.int .u64 (h:Nat),.map lm mx,.func (.func g) [] caps]
theorem ZoG{L:List Blk}{keep:List Nat}{is:List QAbs.PI}{s0:St}{more:List (Bool × List Blk)}{i:Opd}{lv h:Nat}{es es':List (AV × AV)}(hx:Ze e x=some (.map lv ix))(hi:Ze e i=some (.int .u64 h))(hv:Ze e v=some w)(hw:s0.wr lv)(hg:s0.get lv ix=some (.map es))
 (hs:ZZ QD (lv+1) ⟨s0.ps++more,false,L⟩ w=some (w,⟨s0.ps++more,false,L⟩)) (hp:ZBV (.int .u64 h) w es=some es')
 (hh:Is O is keep k Q e ⟨(s0.upd lv ix (.map es')).ps++more,false,L⟩):Is O (⟨none,none,false,.mupd 0 x i v⟩::is) keep k Q e ⟨s0.ps++more,false,L⟩:=by
 have hl:=St.get_le hg;have g':=ZCj hg more false L;have w':=ZkS hl hw more false L;refine Z4 (od:=none) (v:=.undef) (st':=St.upd ⟨s0.ps++more,false,L⟩ lv ix (.map es')) ?_ ?_
 ·simp only[Zi,evalPO,ZH hx,ZH hi,ZH hv,ZHy,J2,if_true,hs,oS,ZKj,g',ZAe,hp,St.put_upd w' g',ZBW]
 ·rw[Zhs hl];exact hh
theorem Zh0{N:ZO}{P:Nat}(ih:∀(h:Nat) (s:List Nat) (x:Nd),lk N h=some x->x.h=n->3*(bel N n h s).length+1<=3*s.length+P):∀(ks:List Kid) (s:List Nat),(∀k∈ks,∃y,lk N k.at_=some y/\y.h=n)->3*(ks.foldl (fun s k=>bel N n k.at_ s) s).length+ks.length<=3*s.length+ks.length*P:=by
 intro ks
 induction ks with
 | nil=>intro s _;simp
 | cons k l ihl =>
  intro s hk;rw[List.foldl_cons]
  obtain⟨y,y1,y2⟩:=hk k (by simp)
  have a1:=ih k.at_ s y y1 y2
  have a2:=ihl (bel N n k.at_ s) (fun z hz=>hk z (List.mem_cons_of_mem _ hz))
  rw[List.length_cons,Nat.add_mul];omega
theorem Zqj{N:ZO}(hN:GoodN N):∀(n h:Nat) (s:List Nat) (x:Nd),lk N h=some x->x.h=n->3*(bel N n h s).length+1<=3*s.length+4 ^ (n+1):=by
 intro n
 induction n with
 | zero =>
  intro h s x hx hh;rw[bel]
  split
  ·omega
  ·rw[lL];simp;omega
 | succ n ih =>
  intro h s x hx hh;rw[bel,Yz hx]
  have hp:4 ^ (n+1+1)=4*4 ^ (n+1):=by rw[Nat.pow_succ];omega
  have h1:0<4 ^ (n+1):=Nat.pow_pos (by decide)
  split
  ·omega
  ·have hk4:=(hN h x hx).1.len
   have hkids:=(hN h x hx).2
   have:=Zh0 ih x.ks (s++[h]) (fun k hk=>by obtain⟨_,y,y1,y2,_⟩:=hkids k hk;exact⟨y,y1,by omega⟩)
   rw[lL,List.length_singleton]at this
   have h3:(4-x.ks.length)*4 ^ (n+1)+x.ks.length*4 ^ (n+1)=4*4 ^ (n+1):=by rw[<- Nat.add_mul];congr 1;omega
   have h4:(4-x.ks.length)*1<=(4-x.ks.length)*4 ^ (n+1):=Nat.mul_le_mul_left _ h1
   generalize 4 ^ (n+1)=P at *
   generalize (4-x.ks.length)*P=P1 at *
   generalize x.ks.length*P=P2 at *
   omega
theorem ZaQ{τ:List Nat->List Nat->St}(hV:Visit τ lm mx g caps){N:ZO}{b:Nat}(hR:∀u w,Rd (τ u w) la (b+5) N){h:Nat}{x:Nd}(hx:lk N h=some x)(hk4:x.ks.length<=4)(s:List Nat)(hs:h∉s)(f:Kid->List Nat->List Nat){B:Nat}(hB:B<=900000000)
 (hlen:∀i,((x.ks.take i).foldl (fun s k=>f k s) (s++[h])).length<=B)
 (hf:∀k∈x.ks,∀(s:List Nat) (more:List (Bool × List Blk)) (L:List Blk),s.length<=B->S Tb JU [.ptr la (b+5) 0 0 0,.int .u64 k.at_,.map lm mx,.func (.func g) [] caps] ⟨(τ s s).ps++more,false,L⟩=some (.int .i64 0,⟨(τ (f k s) (f k s)).ps++more,false,L⟩))
 {more:List (Bool × List Blk)} {st st':St} (hst:st.ps=(τ s s).ps++more) (hst':st'.ps=(τ (x.ks.foldl (fun s k=>f k s) (s++[h])) (x.ks.foldl (fun s k=>f k s) (s++[h]))).ps++more) :
 S Tb JU [.ptr la (b+5) 0 0 0,.int .u64 h,.map lm mx,.func (.func g) [] caps] st=some (.int .i64 0,st'):=by
 refine ZB1 Y (fun A hA=>?_)
 have hA2:A=(τ s s).ps++more:=hA.trans hst;clear hA;subst hA2
 have hlk:=fun L=>ZD7 (ZCj (hV.get s s) more false L) h
 simp only[decide_eq_false hs]at hlk;have hl0:=hlen 0;simp only[List.take_zero,List.foldl_nil,lL,List.length_singleton]at hl0
 repeat'(first|refine ZE ?_|refine ZD ?_|refine ZF Y ?_|refine ZB Y ?_|refine ZC ?_|refine ZG Y ?_|refine YZ Y Y (hlk _) ?_|refine ZI ?_)
 all_goals try contradiction
 refine ZoG Y Y Y (hV.wr s s) (hV.get s s) Y (ZO8 h s hs) ?_;rw[hV.upd]
 have hG:=fun L=>ZhV ((hR (s++[h]) s).more more false L) hx hk4
 have hcp:x.copy.av=.agg [.int .i64 x.h,.str x.text,.lit (x.ks.map Kid.av)]:=rfl;rw[hcp]at hG
 obtain⟨v,hc⟩:=hV.call (s++[h]) s h more [.arr 3 0 [.agg [.int .i64 x.h,.str x.text,.lit (x.ks.map Kid.av)]]] (by omega)
 generalize hA1:(τ (s++[h]) s).ps++more=A1 at *
 repeat'(first|refine ZA Y Y (hV.wk h) hc ?_|refine ZE ?_|refine ZD ?_|refine ZF Y ?_|refine ZU Y Y ?_|refine Zr Y Y ?_|refine ZB Y ?_|refine ZC ?_|(refine cm0 Y Y Y ?_ ?_<;>intro _<;>try omega)|refine ZG Y ?_|refine Zn Y Y Y ?_|refine Zy Y Y Y Y Y Y ?_|refine ZA Y Y Y (hG _) ?_|refine ZI ?_)
 all_goals try contradiction
 obtain⟨A2,hA2⟩:∃A2,A2=(τ (s++[h]) (s++[h])).ps++more:=⟨_,rfl⟩
 have e12:A1.length=A2.length:=by
  have:=hV.len (s++[h]) s (s++[h]) (s++[h])
  rw[<- hA1,hA2];simp only[lL]at this ⊢;omega
 rw[<- hA2,e12]
 repeat'(first|refine JG Y ?_|refine ZF Y ?_|refine ZV Y Y Y Y ?_|refine ZB Y ?_|refine ZC ?_|refine ZJ ?_)
 refine Zt (α:=Nat × List Blk) (fun p=>[(0,.ptr la (b+5) 0 0 0),(2,.map lm mx),(3,.func (.func g) [] caps),(32,.lit (x.ks.map Kid.av)),(33,.int .i64 x.ks.length),(34,.int .i64 p.1)])
  (fun p=>⟨(τ ((x.ks.take p.1).foldl (fun s k=>f k s) (s++[h])) ((x.ks.take p.1).foldl (fun s k=>f k s) (s++[h]))).ps++more,false,.arr 3 0 [.agg [.int .i64 x.h,.str x.text,.lit (x.ks.map Kid.av)]]::p.2⟩) (fun p=>p.1<=x.ks.length) (fun p=>x.ks.length-p.1) (0,[]) rfl (by rw[hA2];rfl) (Nat.zero_le _) ?_
 rintro⟨i,G⟩ hi
 simp only at hi ⊢
 rcases Nat.lt_or_ge i x.ks.length with hlt|hge
 ·obtain⟨kd,hk⟩:∃k,x.ks[i]?=some k:=⟨x.ks[i]'hlt,jE _⟩
  have qk:0<=((i:Nat):Int)/\x.ks[((i:Nat):Int).toNat]?=some kd:=⟨by omega,by rw[show ((i:Nat):Int).toNat=i by omega];exact hk⟩
  have hcl:=fun L=>hf kd (jM hk) _ more L (hlen i)
  have hnx:(x.ks.take (i+1)).foldl (fun s k=>f k s) (s++[h])=f kd ((x.ks.take i).foldl (fun s k=>f k s) (s++[h])):=by
   rw[ZW hk,List.foldl_append];rfl
  rw[<- hnx]at hcl
  generalize hP:(τ ((x.ks.take (i+1)).foldl (fun s k=>f k s) (s++[h])) ((x.ks.take (i+1)).foldl (fun s k=>f k s) (s++[h]))).ps++more=P at *
  generalize (τ ((x.ks.take i).foldl (fun s k=>f k s) (s++[h])) ((x.ks.take i).foldl (fun s k=>f k s) (s++[h]))).ps++more=A3 at *
  repeat'(first|refine QY (f:=Kid.av) Y Y qk (fun _=>rfl) ?_|refine ZA Y Y (hV.wk2 _ _ _) (hcl _) ?_|refine ZE ?_|refine ZD ?_|refine ZF Y ?_|refine ZU Y Y ?_|refine ZB Y ?_|refine ZC ?_|refine Ql Y Y Y ?_|refine QF Y Y ?_|(refine cm0 Y Y Y ?_ ?_<;>intro _<;>try omega)|refine ZS Y ?_|refine ZG Y ?_|refine Zj Y Y (by omega) ?_|refine Z0 Y Y Y ?_|refine J9 Y Y Y Y Y Y ?_|refine ZI ?_|refine ZJ ?_|refine Zz ?_|refine Z7 ?_)
  all_goals try first|contradiction|omega
  refine⟨(i+1,G++[.arr 4 0 [kd.av]]),⟨rfl,?_⟩,by simp only;omega,by simp only;omega⟩
  simp only
  rw[hP];rfl
 ·obtain rfl:i=x.ks.length:=by omega
  rw[List.take_length]
  repeat'(first|refine ZE ?_|refine ZD ?_|refine ZF Y ?_|refine ZB Y ?_|refine ZC ?_|(refine cm0 Y Y Y ?_ ?_<;>intro _<;>try omega)|refine ZG Y ?_|refine ZP ?_|refine Zo ?_|refine ZL ?_|refine Zc ?_|refine Za Y ?_|refine Zk ?_)
  all_goals try omega
  refine Zf (st:=st') hst'.symm (.inr Y) Y Y Y Y ?_;rfl
theorem ZaR{τ:List Nat->List Nat->St}(hV:Visit τ lm mx g caps){b:Nat}{h:Nat}(s:List Nat)(hs:h∈s){more:List (Bool × List Blk)}(hst:st.ps=(τ s s).ps++more):
 S Tb JU [.ptr la (b+5) 0 0 0,.int .u64 h,.map lm mx,.func (.func g) [] caps] st=some (.int .i64 0,st):=by
 refine ZB1 Y (fun A hA=>?_)
 have hA2:A=(τ s s).ps++more:=hA.trans hst;have hA0:=hA;clear hA;subst hA2
 have hlk:=fun L=>ZD7 (ZCj (hV.get s s) more false L) h
 simp only[decide_eq_true hs]at hlk
 repeat'(first|refine ZE ?_|refine ZD ?_|refine ZF Y ?_|refine ZB Y ?_|refine ZC ?_|refine ZS Y ?_|refine YZ Y Y (hlk _) ?_|refine ZP ?_|refine ZL ?_|refine Zb ?_)
 all_goals try contradiction
 refine Zf (st:=st) hA0 (.inr Y) Y Y Y Y ?_;rfl
theorem ZoH{s t:St}(h:s.ps=t.ps):s=t:=by
 obtain⟨A,r,L⟩:=s;obtain⟨A',r',L'⟩:=t
 have:=List.append_inj' h rfl
 obtain⟨rfl,h2⟩:=this;simp only[List.cons.injEq,jP,and_true]at h2;obtain⟨rfl,rfl⟩:=h2;rfl
theorem Zkb{τ:List Nat->List Nat->St}(hV:Visit τ lm mx g caps){N:ZO}(hN:GoodN N){b:Nat}(hR:∀u w,Rd (τ u w) la (b+5) N):∀(n h:Nat) (x:Nd) (s:List Nat),lk N h=some x->x.h=n->s.length+4 ^ (n+1)<=900000000->∀ {more:List (Bool × List Blk)} {st st':St},st.ps=(τ s s).ps++more->st'.ps=(τ (bel N n h s) (bel N n h s)).ps++more ->
 S Tb JU [.ptr la (b+5) 0 0 0,.int .u64 h,.map lm mx,.func (.func g) [] caps] st=some (.int .i64 0,st'):=by
 intro n
 induction n with
 | zero =>
  intro h x s hx hh hb more st st' hst hst'
  by_cases hm:h∈s
  ·rw[bel,if_pos hm,<- hst]at hst'
   rw[ZoH hst'];exact ZaR hV s hm hst
  ·rw[bel,if_neg hm]at hst'
   have hks:x.ks=[]:=by
    rcases (hN h x hx).1 with q|⟨m,ks,q⟩
    ·exact q.ks
    ·have e:=q.eq;subst e;simp at hh
   refine ZaQ hV hR hx (by rw[hks];decide) s hm (fun _ s=>s) (Nat.le_refl _) (fun i=>?_) (fun k hk=>by rw[hks]at hk;simp at hk) hst (by rw[hks];exact hst')
   rw[hks,List.take_nil,List.foldl_nil,lL,List.length_singleton]
   simp at hb;omega
 | succ n ih =>
  intro h x s hx hh hb more st st' hst hst'
  by_cases hm:h∈s
  ·rw[bel,if_pos hm,<- hst]at hst'
   rw[ZoH hst'];exact ZaR hV s hm hst
  ·rw[bel,if_neg hm,Yz hx]at hst'
   have hk4:=(hN h x hx).1.len;have hkids:=(hN h x hx).2
   have hp:4 ^ (n+1+1)=4*4 ^ (n+1):=by rw[Nat.pow_succ];omega
   have h1:4<=4 ^ (n+1):=by rw[Nat.pow_succ];have:0<4 ^ n:=Nat.pow_pos (by decide);omega
   refine ZaQ hV hR hx hk4 s hm (fun k s=>bel N n k.at_ s) (B:=900000000-4 ^ (n+1)) (by omega) (fun i=>?_) (fun k hk s' more' L hl=>?_) hst hst'
   ·have:=Zh0 (Zqj hN n) (x.ks.take i) (s++[h]) (fun k hk=>by obtain⟨_,y,y1,y2,_⟩:=hkids k (List.mem_of_mem_take hk);exact⟨y,y1,by omega⟩)
    rw[lL,List.length_singleton]at this
    have hti:(x.ks.take i).length<=4:=by rw[List.length_take];omega
    have h4:(x.ks.take i).length*4 ^ (n+1)<=4*4 ^ (n+1):=Nat.mul_le_mul_right _ hti
    generalize (x.ks.take i).length*4 ^ (n+1)=P2 at *
    generalize 4 ^ (n+1)=P at *
    omega
   ·obtain⟨_,y,y1,y2,_⟩:=hkids k hk
    exact ih k.at_ y s' y1 (by omega) (by omega) (more:=more'++[(false,L)]) (List.append_assoc ..) (List.append_assoc ..)
theorem Zh1:∀l:List Tr,(∀t∈l,4*(t.siz:Int)+4<=t.bytes)->4*(Tr.sizL l:Int)+4*l.length<=Tr.bytesL l
 | [],_=>by simp[Tr.sizL,Tr.bytesL]
 | t::l,h=>by
  have h1:=h t (by simp)
  have h2:=Zh1 l fun u hu=>h u (by simp[hu])
  simp only[Tr.sizL,Tr.bytesL,List.length_cons];omega
theorem ZoI{N:ZO}(hN:GoodN N)(hv:Val N t):(t.siz:Int)<=t.bytes+1/\(Big t->4*(t.siz:Int)+4<=t.bytes):=by
 have hsz:=hv.size hN;have hps:=hv.pos.2
 induction hv with
 | @kept o h m k x h0 hx hok hh hm hk =>
  have ec:(Tr.mk o h m [] k).siz=1:=by rw[Tr.siz,Tr.sizO_getD,hk];rfl
  have hl:h<=16:=by
   rcases hok with q|⟨n,ks,q⟩
   ·rw[<- hh,q.h];omega
   ·have:=q.n15;have e:=q.eq;subst e;simp only at hh;omega
  rw[ec]
  refine⟨by omega,fun q=>?_⟩
  have h1:=hsz q;have h2:=(ZE3 hl).1;simp only[Tr.h]at h1;omega
 | @leaf s k h1 h2 hk =>
  have ec:(Tr.mk 0 0 .zero s k).siz=1:=by rw[Tr.siz,Tr.sizO_getD,hk];rfl
  rw[ec]
  refine⟨by omega,fun q=>?_⟩
  have:=q rfl
  omega
 | @inner h l hh h2 h4 hl hb hv ih =>
  have ec:(Tr.mk 0 (h+1) .zero [] (some l)).siz=Tr.sizL l+1:=by rw[Tr.siz,Tr.sizO];omega
  have eb:(Tr.mk 0 (h+1) .zero [] (some l)).bytes=Tr.bytesL l:=by rw[Tr.bytes,Tr.bytesO];simp[Mea.zero]
  have:=Zh1 l fun u hu=>(ih u hu ((hv u hu).size hN) (hv u hu).pos.2).2 (fun q=>hb u hu (by rw[<- hl u hu];exact q))
  rw[ec,eb]
  exact⟨by omega,fun _=>by omega⟩
theorem ZoJ{N:ZO}(hv:Val N t):∀out:List Nat,(∀h∈out,∃x,lk N h=some x)->∀h∈t.kwT out,∃x,lk N h=some x:=by
 induction hv with
 | @kept o h m k x h0 hx hok hh hm hk =>
  intro out ho a ha;rw[Tr.kwT,Tr.kwO_getD,hk,Tr.kwL]at ha
  split at ha
  ·rcases List.mem_append.1 ha with q|q
   ·exact ho a q
   ·rw[List.mem_singleton.1 q];exact⟨x,hx⟩
  ·exact ho a ha
 | @leaf s k h1 h2 hk =>
  intro out ho a ha
  rw[Tr.kwT,Tr.kwO_getD,hk,Tr.kwL,if_neg (by simp)]at ha
  exact ho a ha
 | @inner h l hh h2 h4 hl hb hv ih =>
  intro out ho a ha
  rw[Tr.kwT,Tr.kwO,if_neg (by simp)]at ha
  have key:∀(l:List Tr) (out:List Nat),(∀t∈l,∀out:List Nat,(∀h∈out,∃x,lk N h=some x)->∀h∈t.kwT out,∃x,lk N h=some x)->(∀h∈out,∃x,lk N h=some x)->∀a∈Tr.kwL l out,∃x,lk N a=some x:=by
   intro l
   induction l with
   | nil=>intro out _ ho a ha;exact ho a ha
   | cons t l ihl =>
    intro out hi ho a ha;rw[Tr.kwL]at ha
    exact ihl (t.kwT out) (fun u hu=>hi u (List.mem_cons_of_mem _ hu)) (hi t (by simp) out ho) a ha
  exact key l out ih ho a ha
theorem Zsn(h:Nat)(st:St):S Tb Yh [.int .u64 h] st=some (.tup [],st):=by
 refine QK Y (fun A hA=>?_)
 repeat'(first|refine ZI ?_|refine ZL ?_)
 refine Zf hA (by simp) Y Y Y Y ?_
 rfl
def dr1(A:List (Bool × List Blk))(b4 b5 b8:Blk)(u:List Nat):St:=⟨A,false,[b4,b5,b8,.map (YW u),.arr 1 0 [.map A.length 3]]⟩
def dr2(A:List (Bool × List Blk))(b4 b5 b8:Blk)(has u o:List Nat):St:=⟨A,false,[b4,b5,b8,.map (YW has),.arr 1 0 [.map A.length 3],.arr 1 o.length (o.map Z1),.arr 1 0 [.ref A.length 5 o.length 0 o.length],.map (YW u)]⟩
theorem Zry(A:List (Bool × List Blk))(b4 b5 b8:Blk):Visit (fun u _=>dr1 A b4 b5 b8 u) A.length 3 Yh [] where
 len _ _ _ _:=by simp[dr1]
 wr _ _:=by simp[St.wr,dr1]
 get _ _:=St.get_cur ..
 upd _ _ _:=by simp[St.upd,dr1]
 call u w h more L _:=⟨_,Zsn h _⟩
 wk _:=rfl
 wk2 _ _ _:=rfl
theorem Zrz(A:List (Bool × List Blk))(b4 b5 b8:Blk)(has u o:List Nat):Cl (dr2 A b4 b5 b8 has u o) [(A.length,5),(A.length,6)] [.arr 1 o.length (o.map Z1),.arr 1 0 [.ref A.length 5 o.length 0 o.length]]:=by
 refine⟨by simp,rfl,fun k hk=>?_,fun j lv ix b h1 h2=>?_⟩
 ·simp only[List.mem_cons,List.not_mem_nil,or_false]at hk
  rcases hk with rfl|rfl<;>simp[St.wr,dr2]
 ·match j,h1,h2 with
  | 0,h1,h2=>obtain⟨rfl,rfl⟩:=Prod.mk.inj (Option.some.inj h1);obtain rfl:=Option.some.inj h2;exact St.get_cur ..
  | 1,h1,h2=>obtain⟨rfl,rfl⟩:=Prod.mk.inj (Option.some.inj h1);obtain rfl:=Option.some.inj h2;exact St.get_cur ..
  | n+2,h1,h2=>simp at h1
theorem Zqk(A:List (Bool × List Blk))(b4 b5 b8:Blk)(has u o o':List Nat):Ji (dr2 A b4 b5 b8 has u o) [(A.length,5),(A.length,6)] [.arr 1 o'.length (o'.map Z1),.arr 1 0 [.ref A.length 5 o'.length 0 o'.length]]=dr2 A b4 b5 b8 has u o':=by
 simp[Ji,St.upd,dr2]
theorem Zso(A:List (Bool × List Blk))(b4 b5 b8:Blk)(has u o:List Nat)(h:Nat)(more:List (Bool × List Blk))(L:List Blk)(hl:o.length<1000000000):
 S Tb Yi [.int .u64 h,.ptr A.length 4 0 0 0,.ptr A.length 6 0 0 0] ⟨(dr2 A b4 b5 b8 has u o).ps++more,false,L⟩=some (.tup [],⟨(dr2 A b4 b5 b8 has u (if h∈has then o else o++[h])).ps++more,false,L⟩):=by
 have H:=(Zrz A b4 b5 b8 has u o).more more false L;have hm4:St.get ⟨(dr2 A b4 b5 b8 has u o).ps++more,false,L⟩ A.length 4=some (.arr 1 0 [.map A.length 3]):=ZCj (s:=dr2 A b4 b5 b8 has u o) (St.get_cur ..) more false L;have hm3:St.get ⟨(dr2 A b4 b5 b8 has u o).ps++more,false,L⟩ A.length 3=some (.map (YW has)):=ZCj (s:=dr2 A b4 b5 b8 has u o) (St.get_cur ..) more false L
 by_cases hm:h∈has
 ·rw[if_pos hm]
  refine QK Y (fun A1 hA=>?_)
  have g4:=fun L'=>ZQ hA (ro:=false) (L:=L') hm4
  have hlk:=fun L'=>ZD7 (ZQ hA (ro:=false) (L:=L') hm3) h
  simp only[decide_eq_true hm]at hlk
  repeat'(first|refine ZE ?_|refine ZD ?_|refine ZF Y ?_|refine ZB Y ?_|refine ZC ?_|refine ZG Y ?_|refine JW Y Y ?_|refine Z5 Y (g4 _) Y Y ?_|refine YZ Y Y (hlk _) ?_|refine ZI ?_|refine ZL ?_)
  all_goals try contradiction
  refine Zf hA (by simp) Y Y Y Y ?_
  rfl
 ·rw[if_neg hm]
  have e:Ji ⟨(dr2 A b4 b5 b8 has u o).ps++more,false,L⟩ [(A.length,5),(A.length,6)] [.arr 1 (o++[h]).length ((o++[h]).map Z1),.arr 1 0 [.ref A.length 5 (o++[h]).length 0 (o++[h]).length]]=⟨(dr2 A b4 b5 b8 has u (o++[h])).ps++more,false,L⟩:=by
   rw[ZSG (fun k hk=>by simp only[List.mem_cons,List.not_mem_nil,or_false]at hk;rcases hk with rfl|rfl<;>exact Nat.le_refl _),Zqk]
  rw[<- e]
  refine ZB1 Y (fun A1 hA=>?_)
  have hA':A1=(Ji ⟨(dr2 A b4 b5 b8 has u o).ps++more,false,L⟩ [(A.length,5),(A.length,6)] [.arr 1 o.length (o.map Z1),.arr 1 0 [.ref A.length 5 o.length 0 o.length]]).ps:=by rw[H.same];exact hA
  have g4:=fun L'=>ZQ hA (ro:=false) (L:=L') hm4
  have hlk:=fun L'=>ZD7 (ZQ hA (ro:=false) (L:=L') hm3) h
  simp only[decide_eq_false hm]at hlk
  have g6:=fun L'=>H.old hA' rfl rfl (ro:=false) (L:=L') (j:=1) rfl rfl
  repeat'(first|refine ZE ?_|refine ZD ?_|refine ZF Y ?_|refine ZB Y ?_|refine ZC ?_|refine ZS Y ?_|refine JW Y Y ?_|refine QX Y Y Y Y ?_|refine Z5 Y (g4 _) Y Y ?_|refine YZ Y Y (hlk _) ?_|refine Z5 Y (g6 _) Y Y ?_)
  all_goals try contradiction
  refine Zj7 (es:=o.map Z1) (ys:=[.int .u64 h]) H hA' Y Y (j:=0) Y Y (by rw[List.length_map];rfl) rfl rfl rfl rfl (by rw[List.length_map,List.length_singleton];omega) (by decide) (fun A2 hA2 _=>?_)
  skip
  refine Zm3 H hA2 Y Y (j:=1) Y Y Y Y Y (Jc _ (Nat.lt_succ_self _)) Y (fun A3 hA3 _=>?_)
  repeat'(first|refine ZB Y ?_|refine ZL ?_)
  have e3:((([Blk.arr 1 o.length (o.map Z1),Blk.arr 1 0 [.ref A.length 5 o.length 0 o.length]].set 0 (.arr 1 (o.length+1) (o.map Z1++[.int .u64 h]))).set 1 (.arr 1 0 ([AV.ref A.length 5 o.length 0 o.length].set 0 (.ref A.length 5 (o.length+1) 0 ((o.map Z1).length+[AV.int .u64 (h:Int)].length))))))=[.arr 1 (o++[h]).length ((o++[h]).map Z1),.arr 1 0 [.ref A.length 5 (o++[h]).length 0 (o++[h]).length]]:=by
   simp[Z1]
  replace hA3:A3=(Ji ⟨(dr2 A b4 b5 b8 has u o).ps++more,false,L⟩ [(A.length,5),(A.length,6)] [.arr 1 (o++[h]).length ((o++[h]).map Z1),.arr 1 0 [.ref A.length 5 (o++[h]).length 0 (o++[h]).length]]).ps:=by rw[<- e3];exact hA3
  refine Zf hA3 (.inl Y) Y Y Y Y ?_;rfl
theorem Zr0(A:List (Bool × List Blk))(b4 b5 b8:Blk)(has:List Nat):Visit (fun u w=>dr2 A b4 b5 b8 has u (w.filter fun h=>decide (h∉has))) A.length 7 Yi [.ptr A.length 4 0 0 0,.ptr A.length 6 0 0 0] where
 len _ _ _ _:=by simp[dr2]
 wr _ _:=by simp[St.wr,dr2]
 get _ _:=St.get_cur ..
 upd _ _ _:=by simp[St.upd,dr2]
 call u w h more L hl:=by
  refine⟨.tup [],(Zso A b4 b5 b8 has u (w.filter fun h=>decide (h∉has)) h more L (Nat.lt_of_le_of_lt (List.length_filter_le ..) hl)).trans ?_⟩
  rw[List.filter_append]
  by_cases hm:h∈has
  ·rw[if_pos hm,show ([h].filter fun h=>decide (h∉has))=[] by simp[hm],lN]
  ·rw[if_neg hm,show ([h].filter fun h=>decide (h∉has))=[h] by simp[hm]]
 wk _:=rfl
 wk2 _ _ _:=rfl
def ZSH(N:ZO)(l:List Nat):List Nat:=l.foldl (fun s h=>bel N (ZBH N h).h h s) []
def ZK7(N:ZO)(r:Ro)(t:Tr):List Nat:=if r.at_=0 then [] else (bel N r.h r.at_ []).filter fun h=>decide (h∉ZSH N (t.kwT []))
theorem Zr1{N:ZO}(hN:GoodN N){h:Nat}{x:Nd}(h0:h≠0)(hx:lk N h=some x):x.h<=13 :=
 RtOk.h13 hN (r:=⟨h,x.h,x.mea⟩) (.inr ⟨h0,x,hx,(hN h x hx).1,rfl,rfl⟩)
def Lv(N:ZO)(l:List Nat):Prop:=l.Nodup/\∀o∈l,∃x,lk N o=some x
theorem Lv.snoc{N:ZO}(h:Lv N l)(ho:∃x,lk N o=some x)(hn:o∉l):Lv N (l++[o]):=by
 refine⟨?_,fun a ha=>?_⟩
 ·rw[List.nodup_append]
  refine⟨h.1,by simp,fun x hx y hy=>?_⟩
  rw[List.mem_singleton]at hy;intro e;rw[e,hy]at hx;exact hn hx
 ·rcases List.mem_append.1 ha with q|q
  ·exact h.2 a q
  ·rw[List.mem_singleton.1 q];exact ho
theorem ZoK{N:ZO}(hN:GoodN N):∀(n h:Nat) (s:List Nat) (x:Nd),lk N h=some x->x.h=n->Lv N s->Lv N (bel N n h s):=by
 intro n
 induction n with
 | zero =>
  intro h s x hx hh hs;rw[bel]
  split
  ·exact hs
  ·rename_i q;exact hs.snoc ⟨x,hx⟩ q
 | succ n ih =>
  intro h s x hx hh hs;rw[bel,Yz hx]
  split
  ·exact hs
  ·rename_i q
   have key:∀(ks:List Kid) (s:List Nat),(∀k∈ks,∃y,lk N k.at_=some y/\y.h=n)->Lv N s->Lv N (ks.foldl (fun s k=>bel N n k.at_ s) s):=by
    intro ks
    induction ks with
    | nil=>intro s _ h;exact h
    | cons k l ihl =>
     intro s hk h
     obtain⟨y,y1,y2⟩:=hk k (by simp)
     exact ihl _ (fun z hz=>hk z (List.mem_cons_of_mem _ hz)) (ih k.at_ s y y1 y2 h)
   exact key x.ks _ (fun k hk=>by obtain⟨_,y,y1,y2,_⟩:=(hN h x hx).2 k hk;exact⟨y,y1,by omega⟩) (hs.snoc ⟨x,hx⟩ q)
theorem Zql{N:ZO}(hN:GoodN N)(hl:∀h∈l,∃x,lk N h=some x):Lv N (ZSH N l):=by
 have key:∀(l s:List Nat),(∀h∈l,∃x,lk N h=some x)->Lv N s->Lv N (l.foldl (fun s h=>bel N (ZBH N h).h h s) s):=by
  intro l
  induction l with
  | nil=>intro s _ h;exact h
  | cons a l ih =>
   intro s hl h
   obtain⟨x,hx⟩:=hl a (by simp)
   refine ih _ (fun z hz=>hl z (List.mem_cons_of_mem _ hz)) ?_
   show Lv N (bel N (ZBH N a).h a s)
   rw[Yz hx];exact ZoK hN _ a s x hx Y h
 exact key l [] hl ⟨by simp,by simp⟩
theorem Zr2{N:ZO}(hN:∀o x,lk N o=some x->o≠0)(hv:VE N t):∀h∈t.kwT [],h≠0/\∃x,lk N h=some x:=by
 intro h hh
 rcases hv with q|q
 ·obtain⟨o,th,m,s,k⟩:=t
  have e1:=q.old;have e2:=q.ks;simp only[Tr.old,Tr.ks]at e1 e2;rw[Tr.kwT,Tr.kwO_getD,e2,Tr.kwL,e1]at hh
  simp at hh
 ·obtain⟨x,hx⟩:=ZoJ q [] (by simp) h hh
  exact⟨hN h x hx,x,hx⟩
theorem ZoL{N:ZO}(hN:GoodN N)(hv:VE N t)(hb:t.bytes<=65536):t.siz<4294967296:=by
 rcases hv with q|q
 ·obtain⟨o,th,m,s,k⟩:=t
  have e2:=q.ks;simp only[Tr.ks]at e2;rw[Tr.siz,Tr.sizO_getD,e2,Tr.sizL];omega
 ·have:=(ZoI hN q).1;omega
theorem Zll{b:Nat}{N:ZO}(hN:GoodN N)(hK:∀l,Lv N l->l.length<=16384)(hz:∀o x,lk N o=some x->o≠0)(hR:Rd st la (b+5) N){r:Ro}(hr:RtOk N r)(hv:VE N t)(hb:t.bytes<=65536):
 S Tb ZCz [.ptr la (b+5) 0 0 0,r.av,t.av] st=some (.tup [.lit ((ZK7 N r t).map Z1),.int .i64 0],st):=by
 refine QK Y (fun A hA=>?_)
 have hRA:=fun L=>hR.push hA (ro:=false) (L:=L)
 have hKp:=fun L=>ZV7 (hRA L) hr
 have hCk:=fun L=>ZZ7 (hRA L) hv hb
 have hKt:=fun st=>Zrl hv.pos.1 (ZoL hN hv hb) st
 have hkw:=Zr2 hz hv;have hkl:=Tr.kwT_len t [];have hsz:=ZoL hN hv hb;unfold ZK7
 generalize t.kwT []=kl at *
 simp only[List.length_nil]at hkl
 have hP13:∀n,n<=13->4 ^ (n+1)<=268435456:=fun n hn=>by
  have:4 ^ (n+1)<=4 ^ 14:=Nat.pow_le_pow_right (by decide) (by omega)
  exact this
 have hB1:∀(i h:Nat),kl[i]?=some h->S Tb JU [.ptr la (b+5) 0 0 0,.int .u64 h,.map A.length 3,.func (.func Yh) [] []] (dr1 A (.arr 5 0 [r.av]) (.arr 7 0 [t.av]) (.arr 7 0 [(XO r).av]) (ZSH N (kl.take i)))=some (.int .i64 0,dr1 A (.arr 5 0 [r.av]) (.arr 7 0 [t.av]) (.arr 7 0 [(XO r).av]) (ZSH N (kl.take (i+1)))):=by
  intro i h hi;obtain⟨h0,x,hx⟩:=hkw h (jM hi)
  have hlv:=Zql hN (l:=kl.take i) (fun z hz=>(hkw z (List.mem_of_mem_take hz)).2)
  have:=hK _ hlv
  have:=hP13 _ (Zr1 hN h0 hx)
  have e:ZSH N (kl.take (i+1))=bel N x.h h (ZSH N (kl.take i)):=by
   rw[ZW hi];unfold ZSH;rw[List.foldl_append,List.foldl_cons,List.foldl_nil,Yz hx]
  rw[e]
  exact Zkb (Zry A _ _ _) hN (fun _ _=>hRA _) x.h h x _ hx Y (by omega) (more:=[]) (lN _).symm (lN _).symm
 have hB2:r.at_≠0->S Tb JU [.ptr la (b+5) 0 0 0,.int .u64 r.at_,.map A.length 7,.func (.func Yi) [] [.ptr A.length 4 0 0 0,.ptr A.length 6 0 0 0]] (dr2 A (.arr 5 0 [r.av]) (.arr 7 0 [t.av]) (.arr 7 0 [(XO r).av]) (ZSH N kl) [] [])=some (.int .i64 0,dr2 A (.arr 5 0 [r.av]) (.arr 7 0 [t.av]) (.arr 7 0 [(XO r).av]) (ZSH N kl) (bel N r.h r.at_ []) ((bel N r.h r.at_ []).filter fun h=>decide (h∉ZSH N kl))):=by
  intro h0
  obtain⟨x,x1,x2,x3,x4⟩:∃x,lk N r.at_=some x/\NdOk x/\x.h=r.h/\x.mea=r.m:=by
   rcases hr with rfl|w
   ·exact absurd Y h0
   ·exact w.2
  have:=hP13 _ (hr.h13 hN)
  exact Zkb (Zr0 A (.arr 5 0 [r.av]) (.arr 7 0 [t.av]) (.arr 7 0 [(XO r).av]) (ZSH N kl)) hN (fun _ _=>hRA _) r.h r.at_ x [] x1 x3 (by simp only[List.length_nil];omega) (more:=[]) (lN _).symm (lN _).symm
 have hkll:kl.length<1000000000:=by
  have:kl.length<=t.siz:=by omega
  have h2:(t.siz:Int)<=65537:=by
   rcases hv with q|q
   ·obtain⟨o,th,m,s,k⟩:=t
    have e2:=q.ks;simp only[Tr.ks]at e2;rw[Tr.siz,Tr.sizO_getD,e2,Tr.sizL];decide
   ·have:=(ZoI hN q).1;omega
  omega
 unfold dr1 at hB1;unfold dr2 at hB2;obtain⟨ra,rh,rm⟩:=r
 unfold Ro.av at *
 generalize XO ⟨ra,rh,rm⟩=kt at *
 repeat'(first|refine ZE ?_|refine ZD ?_|refine ZF Y ?_|refine ZV Y Y Y Y ?_|refine Zr Y Y ?_|refine ZB Y ?_|refine ZC ?_|(refine cm0 Y Y Y ?_ ?_<;>intro _<;>try omega)|refine ZG Y ?_|refine Zn Y Y Y ?_|refine ZEb Y ?_|refine ZA Y Y (by first|rfl|(simp only[lE,lN,lC,Zg,ZX,ZY];first|done|rfl)) (hKp _) ?_|refine ZA Y Y (by first|rfl|(simp only[lE,lN,lC,Zg,ZX,ZY];first|done|rfl)) (hCk _) ?_|refine ZV Y Y Y (Zp _) ?_|refine Zy Y Y Y (QQ _ _ _) (Qx _ _) Y ?_|refine Z0 Y (Z6 _) (QJ _) ?_|refine ZI ?_)
 all_goals try contradiction
 refine Zy Y Y Y (by simp only[ZZ,QD,if_pos (Nat.lt_succ_self _)]) Y Y ?_
 repeat'(first|refine ZV Y Y Y (Zp _) ?_|refine JG Y ?_|refine ZE ?_|refine ZD ?_|refine ZF Y ?_|refine ZB Y ?_|refine ZC ?_|refine ZA Y Y (by first|rfl|(simp only[lE,lN,lC,Zg,ZX,ZY];first|done|rfl)) (hKt _) ?_|refine ZJ ?_)
 refine Zt (α:=Nat) (fun i=>[(0,.ptr la (b+5) 0 0 0),(4,.ptr A.length 0 0 0 0),(11,.ptr A.length 4 0 0 0),(34,.lit (kl.map Z1)),(35,.int .i64 kl.length),(36,.int .i64 i)])
  (fun i=>⟨A,false,[.arr 5 0 [Ro.av ⟨ra,rh,rm⟩],.arr 7 0 [t.av],.arr 7 0 [kt.av],.map (YW (ZSH N (kl.take i))),.arr 1 0 [.map A.length 3]]⟩) (fun i=>i<=kl.length) (fun i=>kl.length-i) 0 rfl rfl (Nat.zero_le _) ?_
 intro i hi;replace hi:i<=kl.length:=hi;unfold Ro.av
 rcases Nat.lt_or_ge i kl.length with hlt|hge
 ·obtain⟨h,hh⟩:∃x,kl[i]?=some x:=⟨kl[i]'hlt,jE _⟩
  have q:0<=((i:Nat):Int)/\kl[((i:Nat):Int).toNat]?=some h:=⟨by omega,by rw[show ((i:Nat):Int).toNat=i by omega];exact hh⟩
  have hB:=hB1 i h hh
  repeat'(first|refine QY (f:=Z1) Y Y q (fun _=>rfl) ?_|refine ZA Y Y Y hB ?_|refine ZE ?_|refine ZD ?_|refine ZF Y ?_|refine ZV Y Y Y Y ?_|refine ZB Y ?_|refine ZC ?_|refine QF Y Y ?_|(refine cm0 Y Y Y ?_ ?_<;>intro _<;>try omega)|refine ZS Y ?_|refine ZG Y ?_|refine Zj Y Y (by omega) ?_|refine ZI ?_|refine ZJ ?_|refine Zz ?_|refine Z7 ?_)
  all_goals try first|contradiction|omega
  exact⟨i+1,⟨rfl,rfl⟩,by omega,by omega⟩
 ·obtain rfl:i=kl.length:=by omega
  rw[List.take_length]
  by_cases h0:ra=0
  ·subst h0
   repeat'(first|refine ZMQ ?_|refine ZE ?_|refine ZD ?_|refine ZF Y ?_|refine ZU Y Y ?_|refine ZV Y Y Y Y ?_|refine ZB Y ?_|refine ZC ?_|(refine cm0 Y Y Y ?_ ?_<;>intro _<;>try omega)|refine ZS Y ?_|refine ZG Y ?_|refine ZAP Y Y ?_|refine ZEb Y ?_|refine ZI ?_|refine ZP ?_|refine Zo ?_|refine ZL ?_|refine Zb ?_|refine Zc ?_|refine Za Y ?_|refine Zk ?_)
   all_goals try first|contradiction|omega
   refine Zf hA (by simp) Y Y Y Y ?_
   rfl
  ·have hB:=hB2 h0
   have h0i:((ra:Nat):Int)≠0:=by omega
   simp only[if_neg h0]
   generalize (bel N rh ra []).filter (fun h=>decide (h∉ZSH N kl))=out at *
   repeat'(first|refine ZMQ ?_|refine ZA Y Y Y hB ?_|refine ZE ?_|refine ZD ?_|refine ZF Y ?_|refine ZU Y Y ?_|refine ZV Y Y Y Y ?_|refine ZB Y ?_|refine ZC ?_|(refine cm0 Y Y Y ?_ ?_<;>intro _<;>try omega)|refine ZG Y ?_|refine ZAP Y Y ?_|refine ZEb Y ?_|refine ZI ?_|refine ZP ?_|refine Zo ?_|refine ZL ?_|refine Zc ?_|refine Za Y ?_|refine Zk ?_)
   all_goals try first|contradiction|omega
   exact ZH8 hA (.inr Y) Y Y (by simp) (fun v hv=>by obtain⟨x,_,rfl⟩:=List.mem_map.1 hv;rfl) rfl rfl
theorem Zqm{N:ZO}(hN:GoodN N):∀(n h:Nat) (x:Nd),lk N h=some x->x.h=n->∀o∈Xj N n h,∃y,lk N o=some y/\y.h<=n/\∀z∈Xj N y.h o,z∈Xj N n h:=by
 intro n
 induction n with
 | zero =>
  intro h x hx hh o ho;rw[Xj,List.mem_singleton]at ho;subst ho
  exact⟨x,hx,by omega,fun z hz=>by rw[hh]at hz;exact hz⟩
 | succ n ih =>
  intro h x hx hh o ho;have hg:=(hN h x hx).2;rw[Xj,Yz hx,List.mem_cons]at ho
  rcases ho with rfl|ho
  ·exact⟨x,hx,by omega,fun z hz=>by rw[hh]at hz;exact hz⟩
  ·obtain⟨k,hk,ho⟩:=List.mem_flatMap.1 ho
   obtain⟨_,y,y1,y2,_⟩:=hg k hk
   obtain⟨w,w1,w2,w3⟩:=ih k.at_ y y1 (by omega) o ho
   refine⟨w,w1,by omega,fun z hz=>?_⟩
   rw[Xj,Yz hx,List.mem_cons];exact .inr (List.mem_flatMap.2 ⟨k,hk,w3 z hz⟩)
namespace Tr
end Tr
def DrOk(M:Nat)(G:List Blk)(dv:AV)(w:List Nat):Prop:=(w=[]/\dv=.nils)\/∃j ver,dv=.ref M (j+4) ver 0 w.length/\w≠[]/\G[j]?=some (.arr 1 ver (w.map Z1))
def chL(b6:Blk)(t:Tr)(dv:AV)(w:List Nat)(G:List Blk):List Blk :=
 b6::.arr 7 0 [t.av]::.arr 7 0 [.agg [.int .u64 0,.int .i64 0,.int .i64 0,.int .i64 0,.int .i64 0,.nils,dv]]::.map (YW w)::G
theorem Zh2{L:List Blk}{keep:List Nat}{is:List QAbs.PI}{i:Opd}{h:Nat}{es es':List (AV × AV)}(hx:Ze e x=some (.map A.length ix))(hi:Ze e i=some (.int .u64 h))(hv:Ze e v=some w)(hg:L[ix]?=some (.map es))
 (hs:ZZ QD (A.length+1) ⟨A,false,L⟩ w=some (w,⟨A,false,L⟩)) (hp:ZBV (.int .u64 h) w es=some es')
 (hh:Is O is keep k Q e ⟨A,false,L.set ix (.map es')⟩):Is O (⟨none,none,false,.mupd 0 x i v⟩::is) keep k Q e ⟨A,false,L⟩:=by
 have hlt:=(List.getElem?_eq_some_iff.1 hg).1;refine Z4 (od:=none) (v:=.undef) (st':=⟨A,false,L.set ix (.map es')⟩) ?_ hh;simp only[Zi,evalPO,ZH hx,ZH hi,ZH hv,ZHy,J2,if_true,hs,oS,ZKj,St.get_cur,hg,vis,ZAe,hp,St.put,if_false,jB,if_pos hlt,ZBW]
theorem Zdv:∀(l w:List Nat),(l.foldl Jv w).length<=w.length+l.length:=by
 intro l
 induction l with
 | nil=>intro w;simp
 | cons a l ih =>
  intro w;rw[List.foldl_cons]
  have h1:(Jv w a).length<=w.length+1:=by unfold Jv;split<;>simp
  have h2:=ih (Jv w a);rw[List.length_cons];omega
theorem ZoM{b6:Blk}{dv:AV}{w dl:List Nat}{G:List Blk}(h0:DrOk A.length G dv w)(hl:w.length+dl.length<100000000){v0 v29 v30 v31:AV}
 (hQ:∀G' dv',DrOk A.length G' dv' (dl.foldl Jv w)->Rk (S Tb) k Q .norm [(0,v0),(6,.ptr A.length 0 0 0 0),(8,.ptr A.length 1 0 0 0),(10,.ptr A.length 2 0 0 0),(11,.map A.length 3),(29,v29),(30,v30),(31,v31),(46,.lit (dl.map Z1)),(47,.int .i64 dl.length),(48,.int .i64 dl.length),(49,.bool false)] ⟨A,false,chL b6 t dv' (dl.foldl Jv w) G'⟩) :
 Ru (S Tb) p_edit_change_19.loop (.blk 2::k) Q [(0,v0),(6,.ptr A.length 0 0 0 0),(8,.ptr A.length 1 0 0 0),(10,.ptr A.length 2 0 0 0),(11,.map A.length 3),(29,v29),(30,v30),(31,v31),(46,.lit (dl.map Z1)),(47,.int .i64 dl.length),(48,.int .i64 0)] ⟨A,false,chL b6 t dv w G⟩:=by
 refine Zt (α:=Nat × AV × List Blk) (fun p=>[(0,v0),(6,.ptr A.length 0 0 0 0),(8,.ptr A.length 1 0 0 0),(10,.ptr A.length 2 0 0 0),(11,.map A.length 3),(29,v29),(30,v30),(31,v31),(46,.lit (dl.map Z1)),(47,.int .i64 dl.length),(48,.int .i64 p.1)])
  (fun p=>⟨A,false,chL b6 t p.2.1 ((dl.take p.1).foldl Jv w) p.2.2⟩) (fun p=>p.1<=dl.length/\DrOk A.length p.2.2 p.2.1 ((dl.take p.1).foldl Jv w)) (fun p=>dl.length-p.1) (0,dv,G) rfl rfl ⟨Nat.zero_le _,h0⟩ ?_
 rintro⟨i,dv1,G1⟩ ⟨hi,hD⟩
 simp only at hi hD ⊢
 have hwl:=Zdv (dl.take i) w;rw[List.length_take,Nat.min_eq_left hi]at hwl
 rcases Nat.lt_or_ge i dl.length with hlt|hge
 ·obtain⟨h,hh⟩:∃x,dl[i]?=some x:=⟨dl[i]'hlt,jE _⟩
  have q:0<=((i:Nat):Int)/\dl[((i:Nat):Int).toNat]?=some h:=⟨by omega,by rw[show ((i:Nat):Int).toNat=i by omega];exact hh⟩
  have hnx:(dl.take (i+1)).foldl Jv w=Jv ((dl.take i).foldl Jv w) h:=by rw[ZW hh,List.foldl_append];rfl
  generalize (dl.take i).foldl Jv w=W at *
  have hlk:=ZD7 (st:=⟨A,false,chL b6 t dv1 W G1⟩) (lv:=A.length) (mx:=3) (St.get_cur ..) h
  by_cases hm:h∈W
  ·simp only[decide_eq_true hm]at hlk
   rw[show Jv W h=W by unfold Jv;rw[if_pos hm]]at hnx
   unfold chL at *
   repeat'(first|refine QY (f:=Z1) Y Y q (fun _=>rfl) ?_|refine ZE ?_|refine ZD ?_|refine ZF Y ?_|refine ZB Y ?_|refine ZC ?_|refine QF Y Y ?_|(refine cm0 Y Y Y ?_ ?_<;>intro _<;>try omega)|refine ZS Y ?_|refine ZG Y ?_|refine JW Y Y ?_|refine Zj Y Y (by omega) ?_|refine YZ Y Y hlk ?_|refine ZI ?_|refine ZJ ?_|refine Zz ?_|refine Z7 ?_)
   all_goals try first|contradiction|omega
   exact⟨(i+1,dv1,G1),⟨rfl,by simp only[hnx]⟩,⟨by simp only;omega,by simp only[hnx];exact hD⟩,by simp only;omega⟩
  ·simp only[decide_eq_false hm]at hlk
   rw[show Jv W h=W++[h] by unfold Jv;rw[if_neg hm]]at hnx
   have hpe:=ZO8 h W hm
   rcases hD with⟨rfl,rfl⟩|⟨j,ver,rfl,hW,hg⟩
   ·unfold chL at *
    repeat'(first|refine QY (f:=Z1) Y Y q (fun _=>rfl) ?_|refine ZE ?_|refine ZD ?_|refine ZF Y ?_|refine ZB Y ?_|refine ZC ?_|refine QF Y Y ?_|(refine cm0 Y Y Y ?_ ?_<;>intro _<;>try omega)|refine ZS Y ?_|refine JW Y Y ?_|refine YZ Y Y hlk ?_|refine ZI ?_|refine ZJ ?_)
    all_goals try first|contradiction|omega
    refine Zh2 Y Y Y Y Y hpe ?_
    repeat'(first|refine ZD ?_|refine ZF Y ?_|refine ZU Y Y ?_|refine ZV Y Y Y Y ?_|refine ZB Y ?_|refine ZC ?_|refine QX Y Y Y Y ?_)
    refine ZGV (vx:=.lit [.int .u64 h]) (ys:=[.int .u64 h]) (bytes:=8) Y Y Y (by simp) (by decide) Y ?_
    repeat'(first|refine ZD ?_|refine ZF Y ?_|refine ZU Y Y ?_|refine ZB Y ?_|refine ZC ?_|refine Zj Y Y (by omega) ?_|refine JB Y Y Y Y (Jc _ (Nat.lt_succ_self _)) Y ?_|refine Zz ?_|refine Z7 ?_)
    refine⟨(i+1,.ref A.length (G1.length+4) 0 0 1,G1++[.arr 1 0 [.int .u64 h]]),⟨rfl,?_⟩,⟨by simp only;omega,?_⟩,by simp only;omega⟩
    ·simp only[hnx];rfl
    ·simp only[hnx]
     exact .inr ⟨G1.length,0,rfl,by simp,List.getElem?_concat_length ..⟩
   ·have hj:=(List.getElem?_eq_some_iff.1 hg).1
    have hg2:∀b0 b1 b2 b3:Blk,(b0::b1::b2::b3::G1)[j+4]?=some (.arr 1 ver (W.map Z1)):=fun _ _ _ _=>hg
    unfold chL at *
    repeat'(first|refine QY (f:=Z1) Y Y q (fun _=>rfl) ?_|refine ZE ?_|refine ZD ?_|refine ZF Y ?_|refine ZB Y ?_|refine ZC ?_|refine QF Y Y ?_|(refine cm0 Y Y Y ?_ ?_<;>intro _<;>try omega)|refine ZS Y ?_|refine JW Y Y ?_|refine YZ Y Y hlk ?_|refine ZI ?_|refine ZJ ?_)
    all_goals try first|contradiction|omega
    refine Zh2 Y Y Y Y Y hpe ?_
    repeat'(first|refine ZD ?_|refine ZF Y ?_|refine ZU Y Y ?_|refine ZV Y Y Y Y ?_|refine ZB Y ?_|refine ZC ?_|refine QX Y Y Y Y ?_)
    refine ZBT (es:=W.map Z1) (ys:=[.int .u64 h]) Y Y (hg2 _ _ _ _) (by rw[List.length_map]) rfl rfl (by simp;omega) (by decide) ?_
    repeat'(first|refine ZD ?_|refine ZF Y ?_|refine ZU Y Y ?_|refine ZB Y ?_|refine ZC ?_|refine Zj Y Y (by omega) ?_|refine JB Y Y Y Y (Jc _ (Nat.lt_succ_self _)) Y ?_|refine Zz ?_|refine Z7 ?_)
    refine⟨(i+1,.ref A.length (j+4) (ver+1) 0 (W.length+1),G1.set j (.arr 1 (ver+1) (W.map Z1++[.int .u64 h]))),⟨rfl,?_⟩,⟨by simp only;omega,?_⟩,by simp only;omega⟩
    ·simp only[hnx];rfl
    ·simp only[hnx]
     refine .inr ⟨j,ver+1,by simp,by simp,?_⟩
     rw[List.getElem?_set_self hj,List.map_append];rfl
 ·obtain rfl:i=dl.length:=by omega
  rw[List.take_length]at hD ⊢
  repeat'(first|refine ZE ?_|refine ZD ?_|refine ZB Y ?_|refine ZC ?_|(refine cm0 Y Y Y ?_ ?_<;>intro _<;>try omega)|refine ZG Y ?_|refine Zo ?_|refine Zc ?_|refine Za Y ?_|refine Zk ?_)
  all_goals try omega
  exact hQ G1 dv1 hD
def slH(l:List Nat):AV:=if l=[] then .nils else .lit (l.map Z1)
def ZCX(ro:Ro)(fresh:List Nat)(d:AV):AV:=.agg [.int .u64 ro.at_,.int .i64 ro.h,.int .i64 ro.m.b,.int .i64 ro.m.r,.int .i64 ro.m.l,.lit (fresh.map Z1),d]
def chZ:AV:=.agg [.int .u64 0,.int .i64 0,.int .i64 0,.int .i64 0,.int .i64 0,.nils,.nils]
theorem ZoN{b lv q:Nat}{fr:List Nat}(st:St)(hl:lv<b):ZZ QD b st (ZCX ro fr (.ref lv ix ver q n))=some (ZCX ro fr (.ref lv ix ver q n),st):=by
 show (mapSt (keepN (ZZ 5 b)) _ _).bind ZKA=_
 simp only[mapSt,keepN,ZAL,jB,if_false,ZZ,oS,if_pos hl,XQ,ZKA];rfl
theorem ZoO{L:List Blk}{fr d:List Nat}(hg:L[ix]?=some (.arr 1 ver (d.map Z1)))(hn:n=d.length):
 ZZ QD A.length ⟨A,false,L⟩ (.tup [ZCX ro fr (.ref A.length ix ver 0 n),.int .i64 z])=some (.tup [ZCX ro fr (.lit (d.map Z1)),.int .i64 z],⟨A,false,L.set ix .dead⟩):=by
 subst hn
 have h1:=ZJp (n:=3) (A:=A) (s:=0) (m:=d.length) hg (by simp) (es':=d.map Z1) (by
  rw[List.drop_zero,List.take_of_length_le (by simp)]
  exact ZSC (k:=.u64) (fun n:Nat=>(n:Int)) 2 0 _ d)
 show (mapSt (ZZ 5 A.length) _ _).bind Zd3=_
 have h2:ZZ 5 A.length ⟨A,false,L⟩ (ZCX ro fr (.ref A.length ix ver 0 d.length))=some (ZCX ro fr (.lit (d.map Z1)),⟨A,false,L.set ix .dead⟩):=by
  show (mapSt (keepN (ZZ 4 A.length)) _ _).bind ZKA=_
  simp only[mapSt,keepN,ZAL,jB,if_false,oS];simp only[ZZ,oS]at h1 ⊢;simp only[h1,oS,XQ,ZKA];rfl
 simp only[mapSt,h2,oS];rfl
theorem ZSI{L L':List Blk}{x:Ex}{c4 c5 j4 w4 v4:Nat}{v:AV}{cs:LV}(hA:A=st.A++[(st.ro,st.L)])(hx:x=.norm\/x=.ret)(h4:J7 e c4=some (.ptr A.length j4 v4 0 0))(hg4:L[j4]?=some (.arr w4 v4 [v]))(hv:v=.agg cs)(hc:cs.length=7)(h5:J7 e c5=some (.int .i64 z))
 (hs:ZZ QD A.length ⟨A,false,L⟩ (.tup [v,.int .i64 z])=some (.tup [w,.int .i64 z],⟨A,false,L'⟩)):Qj false [.c c4 true 7,.s c5] (x,e,⟨A,false,L⟩)=some (.tup [w,.int .i64 z],st):=by
 refine ZEE (v:=.tup [v,.int .i64 z]) hA hx ?_ hs Y
 have h1:ZBp ⟨A,false,L⟩ e (.c c4 true 7)=some v:=by
  subst hv;simp only[ZBp,QM h4,loadP,St.get_cur,hg4,vis,ZES,if_true,List.getElem?_cons_zero,oS,JL,AV.cells,List.drop_zero]
  rw[List.take_of_length_le (by omega)]
  simp[hc]
  rfl
 simp only[QT,ZEC,h1,oS];simp only[ZBp,QM h5,oS,Option.map_some,ZGd]
def ZBn(N:ZO)(rs:List Ro)(t:Tr):List Nat:=(rs.flatMap fun r=>ZK7 N r t).foldl Jv []
theorem AROk.lv{r:AR}(h:AROk r):∀l,Lv r.nodes l->l.length<=16384:=fun l hl=>h.few hl.1 hl.2
theorem AROk.nz{r:AR}(h:AROk r):∀o x,lk r.nodes o=some x->o≠0:=fun o x hx=>(h.hnd hx).2
theorem Zdw{N:ZO}(hN:GoodN N)(hK:∀l,Lv N l->l.length<=16384){r:Ro}(hr:RtOk N r)(t:Tr):(ZK7 N r t).length<=16384:=by
 unfold ZK7
 split
 ·simp
 ·rename_i h0
  obtain⟨x,x1,x2,x3,x4⟩:∃x,lk N r.at_=some x/\NdOk x/\x.h=r.h/\x.mea=r.m:=by
   rcases hr with rfl|w
   ·exact absurd Y h0
   ·exact w.2
  have:=hK _ (ZoK hN r.h r.at_ [] x x1 x3 ⟨by simp,by simp⟩)
  exact Nat.le_trans (List.length_filter_le ..) this
theorem ZoP{N:ZO}(hN:GoodN N)(hK:∀l,Lv N l->l.length<=16384)(t:Tr):∀ {rs:List Ro},(∀r∈rs,RtOk N r)->(rs.flatMap fun r=>ZK7 N r t).length<=rs.length*16384:=by
 intro rs
 induction rs with
 | nil=>intro _;simp
 | cons r l ih =>
  intro h
  have h1:=Zdw hN hK (h r (by simp)) t
  have h2:=ih (fun z hz=>h z (List.mem_cons_of_mem _ hz))
  rw[List.flatMap_cons,lL,List.length_cons];omega
theorem DrOk.app{M:Nat}{G:List Blk}{dv:AV}{w:List Nat}(h:DrOk M G dv w)(T:List Blk):DrOk M (G++T) dv w:=by
 rcases h with h|⟨j,ver,h1,h2,h3⟩
 ·exact .inl h
 ·exact .inr ⟨j,ver,h1,h2,by rw[jL (List.getElem?_eq_some_iff.1 h3).1];exact h3⟩
theorem Zh3{N:ZO}(hN:GoodN N)(hK:∀l,Lv N l->l.length<=16384)(hz:∀o x,lk N o=some x->o≠0){b:Nat}(hR:∀L,Rd ⟨A,false,L⟩ la (b+5) N){rs:List Ro}(hrs:∀r∈rs,RtOk N r)(hl:rs.length<=3)(hv:VE N t)(hb:t.bytes<=65536){b6:Blk}
 (hQ:∀G dv,DrOk A.length G dv (ZBn N rs t)->Rk (S Tb) k Q .norm [(0,.ptr la (b+5) 0 0 0),(6,.ptr A.length 0 0 0 0),(8,.ptr A.length 1 0 0 0),(10,.ptr A.length 2 0 0 0),(11,.map A.length 3),(29,.lit (rs.map Ro.av)),(30,.int .i64 rs.length),(31,.int .i64 rs.length),(32,.bool false)] ⟨A,false,chL b6 t dv (ZBn N rs t) G⟩) :
 Ru (S Tb) p_edit_change_21.loop (.blk 0::k) Q [(0,.ptr la (b+5) 0 0 0),(6,.ptr A.length 0 0 0 0),(8,.ptr A.length 1 0 0 0),(10,.ptr A.length 2 0 0 0),(11,.map A.length 3),(29,.lit (rs.map Ro.av)),(30,.int .i64 rs.length),(31,.int .i64 0)] ⟨A,false,chL b6 t .nils [] []⟩:=by
 refine Zt (α:=Nat × AV × List Blk) (fun p=>[(0,.ptr la (b+5) 0 0 0),(6,.ptr A.length 0 0 0 0),(8,.ptr A.length 1 0 0 0),(10,.ptr A.length 2 0 0 0),(11,.map A.length 3),(29,.lit (rs.map Ro.av)),(30,.int .i64 rs.length),(31,.int .i64 p.1)])
  (fun p=>⟨A,false,chL b6 t p.2.1 (ZBn N (rs.take p.1) t) p.2.2⟩) (fun p=>p.1<=rs.length/\DrOk A.length p.2.2 p.2.1 (ZBn N (rs.take p.1) t)) (fun p=>rs.length-p.1) (0,.nils,[]) rfl rfl ⟨Nat.zero_le _,.inl ⟨rfl,rfl⟩⟩ ?_
 rintro⟨i,dv,G⟩ ⟨hi,hD⟩
 simp only at hi hD ⊢
 rcases Nat.lt_or_ge i rs.length with hlt|hge
 ·obtain⟨ro,hro⟩:∃x,rs[i]?=some x:=⟨rs[i]'hlt,jE _⟩
  have q:0<=((i:Nat):Int)/\rs[((i:Nat):Int).toNat]?=some ro:=⟨by omega,by rw[show ((i:Nat):Int).toNat=i by omega];exact hro⟩
  have hrt:=hrs ro (jM hro)
  have hDp:=fun L=>Zll hN hK hz (hR L) hrt hv hb
  have hdl:=Zdw hN hK hrt t
  have hfl:=ZoP hN hK t (rs:=rs.take i) (fun z hz=>hrs z (List.mem_of_mem_take hz))
  rw[List.length_take,Nat.min_eq_left hi]at hfl
  have hwl:=Zdv ((rs.take i).flatMap fun r=>ZK7 N r t) []
  change (ZBn N (rs.take i) t).length<=_ at hwl
  simp only[List.length_nil]at hwl
  have hnx:ZBn N (rs.take (i+1)) t=(ZK7 N ro t).foldl Jv (ZBn N (rs.take i) t):=by
   unfold ZBn;rw[ZW hro,List.flatMap_append,List.foldl_append];simp
  have hin:=fun k Q hQ=>ZoM (A:=A) (b6:=b6) (t:=t) (dl:=ZK7 N ro t) (hD.app [.arr 5 0 [ro.av]]) (by omega) (v0:=.ptr la (b+5) 0 0 0) (v29:=.lit (rs.map Ro.av)) (v30:=.int .i64 rs.length) (v31:=.int .i64 i) (k:=k) (Q:=Q) hQ
  rw[<- hnx]at hin
  generalize ZK7 N ro t=dl at *
  generalize ZBn N (rs.take i) t=W at *
  have f13:∀b0 b1 b2 b3:Blk,(b0::b1::b2::b3::G++[Blk.arr 5 0 [ro.av]])[(b0::b1::b2::b3::G).length]?=some (.arr 5 0 [ro.av]):=fun _ _ _ _=>List.getElem?_concat_length ..
  obtain⟨ra,rh,rm⟩:=ro
  unfold chL Ro.av at *
  repeat'(first|refine hin _ _ (fun G' dv' hD'=>?_)|refine QY (f:=Ro.av) Y Y q (fun _=>rfl) ?_|refine JG Y ?_|refine ZE ?_|refine ZD ?_|refine ZF Y ?_|refine Zr Y Y ?_|refine ZB Y ?_|refine ZC ?_|refine Ql Y Y Y ?_|refine QF Y Y ?_|(refine cm0 Y Y Y ?_ ?_<;>intro _<;>try omega)|(refine cm0 Y Y Y ?_ ?_<;>intro _<;>try omega)|refine ZS Y ?_|refine ZG Y ?_|refine Zj Y Y (by omega) ?_|refine Z0 Y Y Y ?_|refine J9 Y Y Y Y Y Y ?_|refine ZA Y Y (by first|rfl|(simp only[lE,lN,lC,Zg,ZX,ZY];first|done|rfl)) (hDp _) ?_|refine ZV Y Y Y (Zp _) ?_|refine ZI ?_|refine ZJ ?_|refine Zz ?_|refine Z7 ?_)
  all_goals try first|contradiction|omega
  exact⟨(i+1,dv',G'),⟨rfl,rfl⟩,⟨by simp only;omega,hD'⟩,by simp only;omega⟩
 ·obtain rfl:i=rs.length:=by omega
  rw[List.take_length]at hD ⊢
  repeat'(first|refine ZE ?_|refine ZD ?_|refine ZB Y ?_|refine ZC ?_|(refine cm0 Y Y Y ?_ ?_<;>intro _<;>try omega)|refine ZG Y ?_|refine Zo ?_|refine Zc ?_|refine Za Y ?_|refine Zk ?_)
  all_goals try omega
  exact hQ G dv hD
theorem ZoQ{b:Nat}{r:AR}(hA:Has st la b r)(ho:AROk r)(hg:GoodN r.nodes){rs:List Ro}(hrs:∀r'∈rs,RtOk r.nodes r')(hl:rs.length<=3)(hv:VE r.nodes t)(hb:t.bytes<=65536){mk:FuncId}
 (hmk:∀A L,A=st.ps->S Tb mk caps ⟨A,false,L⟩=some (.tup [t.av,.int .i64 0],⟨A,false,L⟩)) (hwk:ZY (Zg ([]++[]++caps))=some caps) (hn:nw t<=r.n) :
 S Tb ZEF [.ptr la (b+5) 0 0 0,.func (.func mk) [] caps,.lit (rs.map Ro.av)] st=some (.tup [ZCX (wrV t r).2.1 (wrV t r).2.2 (slH (ZBn r.nodes rs t)),.int .i64 0],Qh st la b (wrV t r).1):=by
 refine ZB1 Y (fun A hA'=>?_)
 have hM:=fun L=>hmk A L hA'
 have hlp:=fun k Q hQ=>Zh3 (A:=A) hg ho.lv ho.nz (fun L=>(hA.r.push hA' (ro:=false) (L:=L)).rd) hrs hl hv hb (b6:=.arr 7 0 [chZ]) (k:=k) (Q:=Q) hQ
 have hle:=hA.le
 have hWr:=fun L=>Zf7 (hA.push hA' (ro:=false) (L:=L)) ho hg hv hb hn
 simp only[ZBG hA' hle]at hWr
 have hAl:A.length=((Qh st la b (wrV t r).1).ps).length:=by rw[hA'];simp[ZGU]
 generalize (wrV t r).2.1=ro at *
 generalize (wrV t r).2.2=fr at *
 obtain⟨A2,hA2⟩:∃A2,A2=(Qh st la b (wrV t r).1).ps:=⟨_,rfl⟩;rw[<- hA2]at hWr hAl;unfold chL at hlp
 unfold chZ at *
 repeat'(first|refine ZA Y Y hwk (hM _) ?_|refine hlp _ _ (fun G dv hD=>?_)|refine JG Y ?_|refine ZE ?_|refine ZD ?_|refine ZF Y ?_|refine Zr Y Y ?_|refine ZB Y ?_|refine ZC ?_|(refine cm0 Y Y Y ?_ ?_<;>intro _<;>try omega)|refine ZG Y ?_|refine Zw Y Y Y ?_|refine Zn Y Y Y ?_|refine Zy Y Y Y Y Y Y ?_|refine ZEb Y ?_|refine ZV Y Y Y (Zp _) ?_|refine Zy Y Y Y (QQ _ _ _) (Qx _ _) Y ?_|refine ZI ?_|refine ZJ ?_)
 all_goals try contradiction
 obtain⟨ra,rh,rm⟩:=ro;unfold Ro.av at hWr
 rcases hD with⟨e,rfl⟩|⟨j,ver,rfl,hne,hgd⟩
 ·rw[e]
  repeat'(first|refine ZF Y ?_|refine ZU Y Y ?_|refine Zr Y Y ?_|refine ZA Y Y (by first|rfl|(simp only[lE,lN,lC,Zg,ZX,ZY];first|done|rfl)) (hWr _) ?_)
  rw[hAl]
  repeat'(first|refine ZE ?_|refine ZD ?_|refine ZF Y ?_|refine ZU Y Y ?_|refine ZV Y Y Y Y ?_|refine ZB Y ?_|refine ZC ?_|(refine cm0 Y Y Y ?_ ?_<;>intro _<;>try omega)|refine ZG Y ?_|refine JB Y Y Y Y Y Y ?_|refine ZI ?_|refine ZP ?_|refine ZL ?_)
  all_goals try contradiction
  exact ZSI (w:=ZCX ⟨ra,rh,rm⟩ fr .nils) hA2 (.inr Y) Y Y Y Y Y Y
 ·have hg3:∀b0 b1 b2 b3:Blk,(b0::b1::b2::b3::G)[j+4]?=some (.arr 1 ver ((ZBn r.nodes rs t).map Z1)):=fun _ _ _ _=>hgd
  unfold slH;rw[if_neg hne]
  generalize ZBn r.nodes rs t=dd at *
  repeat'(first|refine ZF Y ?_|refine ZU Y Y ?_|refine Zr Y Y ?_|refine ZA Y Y (by first|rfl|(simp only[lE,lN,lC,Zg,ZX,ZY];first|done|rfl)) (hWr _) ?_)
  rw[hAl]
  repeat'(first|refine JB Y Y Y Y (ZoN (ro:=⟨ra,rh,rm⟩) (fr:=fr) _ (Nat.lt_succ_self _)) Y ?_|refine ZE ?_|refine ZD ?_|refine ZF Y ?_|refine ZU Y Y ?_|refine ZV Y Y Y Y ?_|refine ZB Y ?_|refine ZC ?_|(refine cm0 Y Y Y ?_ ?_<;>intro _<;>try omega)|refine ZG Y ?_|refine JB Y Y Y Y Y Y ?_|refine ZI ?_|refine ZP ?_|refine ZL ?_)
  all_goals try contradiction
  exact ZSI (v:=ZCX ⟨ra,rh,rm⟩ fr (.ref A2.length (j+4) ver 0 dd.length)) (w:=ZCX ⟨ra,rh,rm⟩ fr (.lit (dd.map Z1))) hA2 (.inr Y) Y Y Y Y Y (ZoO (hg3 _ _ _ _) Y)
noncomputable def edV(N:ZO)(ro:Ro)(a n:Int)(s:B8):Tr:=(ZGt N (XO ro) a n s).own
structure EdOk(N:ZO)(ro:Ro)(s0:B8)(a n:Int)(s:B8):Prop where
 rt:Rt N ro s0
 a0:0<=a
 n0:0<=n
 le:a+n<=s0.length
 b1:s0.length<=60000
 b2:s.length<=2000
theorem EdOk.ok{N:ZO}(hN:GoodN N){n:Int}(h:EdOk N ro s0 a n s):
 VE N (edV N ro a n s)/\(edV N ro a n s).bytes=s0.length-n+s.length/\(edV N ro a n s).txt N=s0.take a.toNat++s++s0.drop (a+n).toNat:=by
 obtain⟨hk,htx⟩:=h.rt.keep;have hb:=(h.rt.b hN).1;have h1:=h.a0;have h2:=h.n0;have h3:=h.le;have h4:=h.b1;have h5:=h.b2
 have:=ZOy hN (s:=s) hk h1 h2 (by omega) (by omega) (by omega)
 refine⟨Zn0 this.ve,?_,?_⟩
 ·show (Tr.own _).bytes=_;rw[ZCl,this.bytes,hb]
 ·show (Tr.own _).txt N=_;rw[Zqd,this.txt,htx]
theorem ZoR{b:Nat}{N:ZO}(hN:GoodN N)(hR:Rd st la (b+5) N){n:Int}(h:EdOk N ro s0 a n s):
 S Tb ZIB [.ptr la (b+5) 0 0 0,ro.av,.int .i64 a,.int .i64 n,.str s] st=some (.tup [(edV N ro a n s).av,.int .i64 0],st):=by
 refine QK Y (fun A hA=>?_)
 have hRA:=fun L=>hR.push hA (ro:=false) (L:=L)
 have hKp:=fun L=>ZV7 (hRA L) h.rt.rt
 obtain⟨hk,htx⟩:=h.rt.keep;have hb:=(h.rt.b hN).1;have h1:=h.a0;have h2:=h.n0;have h3:=h.le;have h4:=h.b1;have h5:=h.b2
 have hRp:=fun L=>Zdk hN (hRA L) hk (a:=a) (n:=n) (s:=s) h1 h2 (by omega) (by omega) (by omega)
 unfold edV
 generalize (ZGt N (XO ro) a n s).own=t at *
 generalize XO ro=kt at *
 obtain⟨ra,rh,rm⟩:=ro
 unfold Ro.av at *
 repeat'(first|refine ZA Y Y ZkX (hRp _) ?_|refine ZE ?_|refine ZD ?_|refine ZF Y ?_|refine ZV Y Y Y Y ?_|refine Zr Y Y ?_|refine ZB Y ?_|refine ZC ?_|(refine cm0 Y Y Y ?_ ?_<;>intro _<;>try omega)|refine ZG Y ?_|refine Zn Y Y Y ?_|refine ZA Y Y (by first|rfl|(simp only[lE,lN,lC,Zg,ZX,ZY];first|done|rfl)) (hKp _) ?_|refine ZV Y Y Y (Zp _) ?_|refine Zy Y Y Y (QQ _ _ _) (Qx _ _) Y ?_|refine ZI ?_|refine ZP ?_|refine ZL ?_)
 all_goals try first|contradiction|omega
 exact ZD5 hA (.inr Y) Y Y Y Y
theorem ZoS{b lv:Nat}{N:ZO}(hN:GoodN N)(hR:Rd st la (b+5) N){n:Int}(h:EdOk N ro s0 a n s)
 (g0:st.get lv 0=some (.arr 1 0 [.ptr la (b+5) 0 0 0])) (g1:st.get lv 1=some (.arr 5 0 [ro.av])) (g2:st.get lv 2=some (.arr 1 0 [.int .i64 a])) (g3:st.get lv 3=some (.arr 1 0 [.int .i64 n])) (g4:st.get lv 4=some (.arr 1 0 [.str s])) :
 S Tb Xp [.ptr lv 0 0 0 0,.ptr lv 1 0 0 0,.ptr lv 2 0 0 0,.ptr lv 3 0 0 0,.ptr lv 4 0 0 0] st=some (.tup [(edV N ro a n s).av,.int .i64 0],st):=by
 refine QK Y (fun A hA=>?_)
 have hPl:=fun L=>ZoR hN (hR.push hA (ro:=false) (L:=L)) h
 have k0:=fun L=>ZQ hA (ro:=false) (L:=L) g0
 have k1:=fun L=>ZQ hA (ro:=false) (L:=L) g1
 have k2:=fun L=>ZQ hA (ro:=false) (L:=L) g2
 have k3:=fun L=>ZQ hA (ro:=false) (L:=L) g3
 have k4:=fun L=>ZQ hA (ro:=false) (L:=L) g4
 generalize edV N ro a n s=t at *
 repeat'(first|refine Z5 Y (k0 _) Y Y ?_|refine Z5 Y (k1 _) Y (ZgC _) ?_|refine Z5 Y (k2 _) Y Y ?_|refine Z5 Y (k3 _) Y Y ?_|refine Z5 Y (k4 _) Y Y ?_|refine ZE ?_|refine ZD ?_|refine ZF Y ?_|refine Zr Y Y ?_|refine ZB Y ?_|refine ZC ?_|refine Zn Y Y Y ?_|refine ZA Y Y (by first|rfl|(simp only[lE,lN,lC,Zg,ZX,ZY];first|done|rfl)) (hPl _) ?_|refine Zy Y Y Y (QQ _ _ _) (Qx _ _) Y ?_|refine ZP ?_|refine ZL ?_)
 all_goals try contradiction
 exact ZD5 hA (.inr Y) Y Y Y Y
theorem ZjU{b:Nat}{r:AR}(hA:Has st la b r)(ho:AROk r)(hg:GoodN r.nodes){n:Int}(h:EdOk r.nodes ro s0 a n s)(hn:nw (edV r.nodes ro a n s)<=r.n):
 S Tb ZCx [.ptr la (b+5) 0 0 0,ro.av,.int .i64 a,.int .i64 n,.str s] st=some (.tup [ZCX (wrV (edV r.nodes ro a n s) r).2.1 (wrV (edV r.nodes ro a n s) r).2.2 (slH (ZBn r.nodes [ro] (edV r.nodes ro a n s))),.int .i64 0],Qh st la b (wrV (edV r.nodes ro a n s) r).1):=by
 refine ZB1 Y (fun A hA'=>?_)
 have hle:=hA.le;obtain⟨hv,hvb,_⟩:=h.ok hg;have h1:=h.n0;have h4:=h.b1;have h5:=h.b2
 have hCh:=ZoQ (st:=⟨A,false,[.arr 1 0 [.ptr la (b+5) 0 0 0],.arr 5 0 [ro.av],.arr 1 0 [.int .i64 a],.arr 1 0 [.int .i64 n],.arr 1 0 [.str s],.arr 7 0 [chZ]]⟩) (hA.push hA') ho hg (rs:=[ro]) (fun z hz=>by rw[List.mem_singleton]at hz;rw[hz];exact h.rt.rt) (by simp) hv (by omega) (mk:=Xp) (caps:=[.ptr A.length 0 0 0 0,.ptr A.length 1 0 0 0,.ptr A.length 2 0 0 0,.ptr A.length 3 0 0 0,.ptr A.length 4 0 0 0])
  (fun A2 L h2=>ZoS hg ((hA.push hA').r.rd.push h2) h (ZQ h2 (St.get_cur ..)) (ZQ h2 (St.get_cur ..)) (ZQ h2 (St.get_cur ..)) (ZQ h2 (St.get_cur ..)) (ZQ h2 (St.get_cur ..))) rfl hn
 rw[ZBG hA' hle]at hCh
 have hAl:A.length=((Qh st la b (wrV (edV r.nodes ro a n s) r).1).ps).length:=by rw[hA'];simp[ZGU]
 generalize (wrV (edV r.nodes ro a n s) r).2.1=r2 at *
 generalize (wrV (edV r.nodes ro a n s) r).2.2=fr at *
 generalize ZBn r.nodes [ro] (edV r.nodes ro a n s)=dd at *
 obtain⟨A2,hA2⟩:∃A2,A2=(Qh st la b (wrV (edV r.nodes ro a n s) r).1).ps:=⟨_,rfl⟩;rw[<- hA2]at hCh hAl;simp only[jC,List.map_nil]at hCh;obtain⟨x1,x2,x3⟩:=r2;unfold chZ at hCh;unfold Ro.av at hCh ⊢
 by_cases hd:dd=[]
 ·subst hd
  rw[show slH []=.nils from rfl]at hCh ⊢
  unfold ZCX at hCh
  repeat'(first|refine ZE ?_|refine ZD ?_|refine ZF Y ?_|refine ZV Y Y Y Y ?_|refine Zr Y Y ?_|refine ZB Y ?_|refine ZC ?_|refine ZAP Y Y ?_|refine Zn Y Y Y ?_|refine QX Y Y Y Y ?_|refine ZA Y Y Y (hCh) ?_)
  rw[hAl]
  repeat'(first|refine ZF Y ?_|refine ZB Y ?_|refine ZC ?_|refine Zy Y Y Y Y Y Y ?_|refine ZP ?_|refine ZL ?_)
  all_goals try contradiction
  exact ZSI (w:=ZCX ⟨x1,x2,x3⟩ fr .nils) hA2 (.inr Y) Y Y Y Y Y Y
 ·rw[show slH dd=.lit (dd.map Z1) from if_neg hd]at hCh ⊢
  unfold ZCX at hCh
  repeat'(first|refine ZE ?_|refine ZD ?_|refine ZF Y ?_|refine ZV Y Y Y Y ?_|refine Zr Y Y ?_|refine ZB Y ?_|refine ZC ?_|refine ZAP Y Y ?_|refine Zn Y Y Y ?_|refine QX Y Y Y Y ?_|refine ZA Y Y Y (hCh) ?_)
  rw[hAl]
  repeat'(first|refine ZF Y ?_|refine ZB Y ?_|refine ZC ?_|refine Zy Y Y Y Y Y Y ?_|refine ZP ?_|refine ZL ?_)
  all_goals try contradiction
  exact ZSI (w:=ZCX ⟨x1,x2,x3⟩ fr (.lit (dd.map Z1))) hA2 (.inr Y) Y Y Y Y Y Y
theorem ZaS(w:List Nat)(hl:w.length<9223372036854775808)(st:St):S Tb JS [.lit (w.map Z1),.lit (w.map Z1)] st=some (.bool true,st):=by
 refine QK Y (fun A hA=>?_)
 repeat'(first|refine JG Y ?_|refine ZE ?_|refine ZD ?_|refine ZF Y ?_|refine ZB Y ?_|refine ZC ?_|(refine cm0 Y Y Y ?_ ?_<;>intro _<;>try omega)|refine ZG Y ?_|refine ZI ?_|refine ZJ ?_)
 all_goals try contradiction
 refine Zt (α:=Nat) (fun i=>[(0,.lit (w.map Z1)),(1,.lit (w.map Z1)),(5,.int .i64 i)]) (fun i=>⟨A,false,[]⟩) (fun i=>i<=w.length) (fun i=>w.length-i) 0 Y Y (Nat.zero_le _) ?_
 intro i hi;replace hi:i<=w.length:=hi
 rcases Nat.lt_or_ge i w.length with hlt|hge
 ·obtain⟨k,hk⟩:∃k,w[i]?=some k:=⟨w[i]'hlt,jE _⟩
  have q:0<=((i:Nat):Int)/\w[((i:Nat):Int).toNat]?=some k:=⟨by omega,by rw[show ((i:Nat):Int).toNat=i by omega];exact hk⟩
  repeat'(first|refine JG Y ?_|refine QY (f:=Z1) Y Y q (fun _=>rfl) ?_|refine ZE ?_|refine ZD ?_|refine ZF Y ?_|refine ZB Y ?_|refine ZC ?_|refine QF Y Y ?_|(refine cm0 Y Y Y ?_ ?_<;>intro _<;>try omega)|refine ZS Y ?_|refine ZG Y ?_|refine Zj Y Y (by omega) ?_|refine ZI ?_|refine ZJ ?_|refine Zz ?_|refine Z7 ?_)
  all_goals try first|contradiction|omega
  all_goals first|exact absurd Y ‹_›|exact⟨i+1,⟨rfl,rfl⟩,by omega,by omega⟩
 ·obtain rfl:i=w.length:=by omega
  repeat'(first|refine JG Y ?_|refine ZE ?_|refine ZD ?_|refine ZF Y ?_|refine ZB Y ?_|refine ZC ?_|(refine cm0 Y Y Y ?_ ?_<;>intro _<;>try omega)|refine ZG Y ?_|refine ZP ?_|refine Zo ?_|refine ZL ?_|refine Zc ?_|refine Za Y ?_|refine Zk ?_)
  all_goals try omega
  refine Zf hA (by simp) Y Y Y Y ?_
  rfl
structure Op where
 at_:Int
 num:Int
 text:B8
def Zsp(l:List Op):Prop:=∃s∈l,300<s.text.length
noncomputable instance (l:List Op):Decidable (Zsp l):=Classical.propDecidable _
def exU:B8:=[97,98,99,100,101,102,103,104,105,106,107,108,109,110,111,112,113]
theorem ZCm:Qt exU=.mk 0 1 .zero [] (some [J8 [97,98,99,100,101,102,103,104,105],J8 [106,107,108,109,110,111,112,113]]):=by
 rfl
noncomputable def exUR:AR:=(wrV (Qt exU) (Q7 8 4)).1
theorem ZoT:(wrV (Qt exU) (Q7 8 4)).2.1=⟨65538,1,⟨17,17,0⟩⟩:=by
 rw[ZCm];rfl
theorem ZoU:nw (Qt exU)=3:=by rw[ZCm];rfl
theorem Zsq:exUR.n=5:=by unfold exUR;rw[ZCm];rfl
theorem Zr3:nw (edV exUR.nodes ⟨65538,1,⟨17,17,0⟩⟩ 9 0 [120,121,122])<=5:=by
 unfold exUR;rw[ZCm]
 decide +kernel
def exURo:Ro:=⟨65538,1,⟨17,17,0⟩⟩
theorem exU_ok:AROk exUR/\GoodN exUR.nodes/\Rt exUR.nodes exURo exU:=by
 obtain⟨b1,b2,b3⟩:=Xw ZOz (s:=exU) (by decide)
 have ho:=ZaM 8 4 (by omega) (by omega)
 obtain⟨w1,w2⟩:=Zdr (r:=Q7 8 4) (ZBU [] [] [] _) ho ZOz b1 (by rw[b3];decide) (by rw[ZoU];decide)
 rw[show (Q7 8 4).nodes=[] from rfl,b2,ZoT]at w2
 exact⟨w1.ok,w1.good,w2⟩
theorem exU_edOk:EdOk exUR.nodes exURo exU 9 0 [120,121,122]:=⟨exU_ok.2.2,by decide,by decide,by decide,by decide,by decide⟩
theorem Zkc:nw (edV exUR.nodes exURo 9 0 [120,121,122])<=exUR.n:=by rw[Zsq];exact Zr3
theorem ZoV{b:Nat}{r:AR}(hA:Has st la b r)(ho:AROk r)(hg:GoodN r.nodes)(h:EdOk r.nodes ro s0 a 0 s)(hn:nw (edV r.nodes ro a 0 s)<=r.n):
 S Tb ZAA [.ptr la (b+5) 0 0 0,ro.av,.int .i64 a,.str s] st=some (.tup [ZCX (wrV (edV r.nodes ro a 0 s) r).2.1 (wrV (edV r.nodes ro a 0 s) r).2.2 (slH (ZBn r.nodes [ro] (edV r.nodes ro a 0 s))),.int .i64 0],Qh st la b (wrV (edV r.nodes ro a 0 s) r).1):=by
 refine ZB1 Y (fun A hA'=>?_)
 have hle:=hA.le
 have hCh:=fun L=>ZjU (hA.push hA' (ro:=false) (L:=L)) ho hg h hn
 simp only[ZBG hA' hle]at hCh
 have hAl:A.length=((Qh st la b (wrV (edV r.nodes ro a 0 s) r).1).ps).length:=by rw[hA'];simp[ZGU]
 generalize (wrV (edV r.nodes ro a 0 s) r).2.1=r2 at *
 generalize (wrV (edV r.nodes ro a 0 s) r).2.2=fr at *
 generalize ZBn r.nodes [ro] (edV r.nodes ro a 0 s)=dd at *
 obtain⟨A2,hA2⟩:∃A2,A2=(Qh st la b (wrV (edV r.nodes ro a 0 s) r).1).ps:=⟨_,rfl⟩;rw[<- hA2]at hCh hAl;obtain⟨x1,x2,x3⟩:=r2;unfold Ro.av at hCh ⊢
 by_cases hd:dd=[]
 ·subst hd
  rw[show slH []=.nils from rfl]at hCh ⊢
  unfold ZCX at hCh
  repeat'(first|refine ZE ?_|refine ZD ?_|refine ZF Y ?_|refine ZV Y Y Y Y ?_|refine Zr Y Y ?_|refine ZB Y ?_|refine ZC ?_|refine Zn Y Y Y ?_|refine ZA Y Y Y (hCh _) ?_)
  rw[hAl]
  repeat'(first|refine ZF Y ?_|refine ZB Y ?_|refine ZC ?_|refine Zy Y Y Y Y Y Y ?_|refine ZP ?_|refine ZL ?_)
  all_goals try contradiction
  exact ZSI (w:=ZCX ⟨x1,x2,x3⟩ fr .nils) hA2 (.inr Y) Y Y Y Y Y Y
 ·rw[show slH dd=.lit (dd.map Z1) from if_neg hd]at hCh ⊢
  unfold ZCX at hCh
  repeat'(first|refine ZE ?_|refine ZD ?_|refine ZF Y ?_|refine ZV Y Y Y Y ?_|refine Zr Y Y ?_|refine ZB Y ?_|refine ZC ?_|refine Zn Y Y Y ?_|refine ZA Y Y Y (hCh _) ?_)
  rw[hAl]
  repeat'(first|refine ZF Y ?_|refine ZB Y ?_|refine ZC ?_|refine Zy Y Y Y Y Y Y ?_|refine ZP ?_|refine ZL ?_)
  all_goals try contradiction
  exact ZSI (w:=ZCX ⟨x1,x2,x3⟩ fr (.lit (dd.map Z1))) hA2 (.inr Y) Y Y Y Y Y Y
def ZD9(texts:List B8)(ys:List Ed):Prop:=ZSr texts\/ZaO ys\/12<ys.length
noncomputable instance (texts:List B8) (ys:List Ed):Decidable (ZD9 texts ys):=Classical.propDecidable _
theorem ZoW(texts:List B8)(ys:List Ed)(hb:texts.length<9223372036854775808)(hbs:∀s∈texts,s.length<9223372036854775808)(hy:ys.length<9223372036854775808)(hys:∀y∈ys,y.text.length<9223372036854775808)(st:St):
 S Tb Xa [.lit (texts.map .str),.lit (ys.map Ed.av)] st=some (.bool (decide (ZD9 texts ys)),st):=by
 refine QK Y (fun A hA=>?_)
 have hLg:=fun st=>Zrq texts hb hbs st
 have hMn:=fun st=>Zn3 ys hy hys st
 by_cases hl:ZSr texts
 ·rw[decide_eq_true (show ZD9 texts ys from .inl hl)]
  simp only[decide_eq_true hl]at hLg
  repeat'(first|refine ZE ?_|refine ZD ?_|refine ZF Y ?_|refine Q6 Y Y ?_|refine Zl Y Y Y Y ?_|refine ZB Y ?_|refine ZC ?_|refine ZA Y Y Y (hLg _) ?_|refine ZP ?_|refine ZL ?_)
  all_goals try contradiction
  all_goals refine Zf hA (by simp) Y Y Y Y ?_
  all_goals rfl
 simp only[decide_eq_false hl]at hLg
 by_cases hm:ZaO ys
 ·rw[decide_eq_true (show ZD9 texts ys from .inr (.inl hm))]
  simp only[decide_eq_true hm]at hMn
  repeat'(first|refine ZE ?_|refine ZD ?_|refine ZF Y ?_|refine QB Y ?_|refine Q6 Y Y ?_|refine Zl Y Y Y Y ?_|refine ZB Y ?_|refine ZC ?_|refine ZA Y Y Y (hLg _) ?_|refine ZA Y Y Y (hMn _) ?_|refine ZP ?_|refine ZL ?_)
  all_goals try contradiction
  all_goals refine Zf hA (by simp) Y Y Y Y ?_
  all_goals rfl
 simp only[decide_eq_false hm]at hMn
 by_cases h12:12<ys.length
 ·rw[decide_eq_true (show ZD9 texts ys from .inr (.inr h12))]
  repeat'(first|refine JG Y ?_|refine ZE ?_|refine ZD ?_|refine ZF Y ?_|refine QB Y ?_|refine Zl Y Y Y Y ?_|refine ZB Y ?_|refine ZC ?_|(refine cm0 Y Y Y ?_ ?_<;>intro _<;>try omega)|refine ZA Y Y Y (hLg _) ?_|refine ZA Y Y Y (hMn _) ?_|refine ZP ?_|refine ZL ?_)
  all_goals try first|contradiction|omega
  all_goals refine Zf hA (by simp) Y Y Y Y ?_
  all_goals rfl
 ·rw[decide_eq_false (show ¬ ZD9 texts ys from fun q=>q.elim hl fun q=>q.elim hm h12)]
  repeat'(first|refine JG Y ?_|refine ZE ?_|refine ZD ?_|refine ZF Y ?_|refine QB Y ?_|refine Zl Y Y Y Y ?_|refine ZB Y ?_|refine ZC ?_|(refine cm0 Y Y Y ?_ ?_<;>intro _<;>try omega)|refine ZA Y Y Y (hLg _) ?_|refine ZA Y Y Y (hMn _) ?_|refine ZP ?_|refine ZL ?_)
  all_goals try first|contradiction|omega
  all_goals refine Zf hA (by simp) Y Y Y Y ?_
  all_goals rfl
theorem ZoX(x n:Int)(h0:0<=n)(h1:n<4611686018427387904)(st:St):S Tb Ys [.int .i64 x,.int .i64 n] st=some (.int .i64 (Q0 x n),st):=by
 refine QK Y (fun A hA=>?_)
 have hP:=fun st=>ZgB x n h0 h1 st
 repeat'(first|refine ZE ?_|refine ZD ?_|refine ZF Y ?_|refine ZB Y ?_|refine ZC ?_|refine ZA Y Y Y (hP _) ?_|refine ZP ?_|refine ZL ?_)
 refine Zf hA (by simp) Y Y Y Y ?_
 rfl
section
variable {N:ZO}{P:Nat->Prop}
end
def hOf(r:AR)(s:Nat):Nat:=((r.gens[s]?).getD 0).toNat*65536+s
def Zs(r:AR):List Nat:=(Js r.states 1).map (hOf r)
theorem ZGa{l:List Int}{s:Nat}(h:s∈Js l z):s<l.length/\l[s]?=some z:=by
 unfold Js JV at h;rw[List.mem_filter,List.mem_range]at h
 exact⟨h.1,by simpa using h.2⟩
theorem ZjV{lv b:Nat}{r:AR}(h:HasR st lv b r)(ho:AROk r):S Tb Yf [.ptr lv (b+3) 0 0 0] st=some (.lit ((Zs r).map Z1),st):=by
 refine QK Y (fun A hA=>?_)
 have g3:=fun L=>ZQ hA (ro:=false) (L:=L) h.h3
 have g2:=fun L=>ZQ hA (ro:=false) (L:=L) h.h2
 unfold AR.b3 at g3;unfold AR.b2 at g2
 have hw2:∀L,wIs 1 0 (St.get ⟨A,false,L⟩ lv (b+2))=true:=fun L=>by rw[g2];rfl
 have hsl:=fun L=>ZkI (h.push hA (ro:=false) (L:=L)) ho.n16 1
 have hmem:=fun s hs=>ZGa (l:=r.states) (z:=1) (s:=s) hs
 have hlen:(Js r.states 1).length<=16384:=by have:=ZJb r.states 1 r.states.length;have:=ho.n16;unfold Js;omega
 have hn16:=ho.n16;have hgl:=ho.gl;unfold Zs
 generalize Js r.states 1=l at *
 repeat'(first|refine JG Y ?_|refine ZE ?_|refine ZD ?_|refine ZF Y ?_|refine ZB Y ?_|refine ZC ?_|refine ZBM Y ?_|refine ZA Y Y Y (hsl _) ?_|refine ZJ ?_)
 refine Zt (α:=Nat) (fun i=>[(0,.ptr lv (b+3) 0 0 0),(3,.ref A.length 0 i 0 i),(9,.lit (l.map ZO1)),(10,.int .i64 l.length),(11,.int .i64 i)]) (fun i=>⟨A,false,[.arr 1 i (((l.take i).map (hOf r)).map Z1)]⟩) (fun i=>i<=l.length) (fun i=>l.length-i) 0 Y Y (Nat.zero_le _) ?_
 intro i hi;replace hi:i<=l.length:=hi
 rcases Nat.lt_or_ge i l.length with hlt|hge
 ·obtain⟨s,hs⟩:∃x,l[i]?=some x:=⟨l[i]'hlt,by simp[hlt]⟩
  obtain⟨m1,m2⟩:=hmem s (jM hs);obtain⟨g,g1',g2',g3'⟩:=ho.gen s m1
  have q:0<=((i:Nat):Int)/\l[((i:Nat):Int).toNat]?=some s:=⟨by omega,by rw[show ((i:Nat):Int).toNat=i by omega];exact hs⟩
  have q1:(r.gens.map (.int .u64))[0+((s:Nat):Int).toNat]?=some (AV.int .u64 g):=by
   rw[show 0+((s:Nat):Int).toNat=s by omega,jG,g1'];rfl
  have hMk:=fun st=>Zj8 s g (by omega) ⟨by omega,by have:=ho.most;omega⟩ st
  have hl2:(((l.take i).map (hOf r)).map Z1).length+[AV.int .u64 ((g*65536+s:Nat):Int)].length<4294967296:=by simp;omega
  have hl3:i=(((l.take i).map (hOf r)).map Z1).length:=by simp;omega
  have hlt2:((s:Nat):Int)<r.gens.length:=by omega
  repeat'(first|refine QY (f:=ZO1) Y Y q (fun _=>rfl) ?_|refine Z5 Y (g3 _) Y Y ?_|refine YP Y Y (by omega) (hw2 _) ?_|refine Z5 Y (g2 _) q1 Y ?_|refine ZBT Y Y Y hl3 Y Y hl2 (by decide) ?_|refine ZE ?_|refine ZD ?_|refine ZF Y ?_|refine ZU Y Y ?_|refine Zr Y Y ?_|refine ZB Y ?_|refine ZC ?_|refine Z2 Y Y ?_|refine QF Y Y ?_|(refine cm0 Y Y Y ?_ ?_<;>intro _<;>try omega)|refine ZS Y ?_|refine Zj Y Y (by omega) ?_|refine QX Y Y Y Y ?_|refine ZA Y Y Y (hMk _) ?_|refine ZI ?_|refine ZJ ?_|refine Zz ?_|refine Z7 ?_)
  all_goals try first|contradiction|omega
  refine⟨i+1,⟨?_,?_⟩,by omega,by omega⟩
  ·rfl
  ·have e:hOf r s=g*65536+s:=by unfold hOf;rw[g1'];simp
   rw[List.take_add_one,hs,List.map_append,List.map_append,<- e];rfl
 ·obtain rfl:i=l.length:=by omega
  repeat'(first|refine ZE ?_|refine ZD ?_|refine ZF Y ?_|refine ZB Y ?_|refine ZC ?_|(refine cm0 Y Y Y ?_ ?_<;>intro _<;>try omega)|refine ZG Y ?_|refine ZP ?_|refine Zo ?_|refine ZL ?_|refine Zc ?_|refine Za Y ?_|refine Zk ?_)
  all_goals try omega
  refine ZDt (es:=(l.map (hOf r)).map Z1) hA (.inr Y) Y (by rw[List.take_length];rfl) (by simp) (by intro v hv;obtain⟨x,_,rfl⟩:=List.mem_map.1 hv;rfl) ?_
  rfl
theorem ZaT{lv b:Nat}{r:AR}(h:HasR st lv b r)(ho:AROk r):S Tb J5 [.ptr lv (b+5) 0 0 0] st=some (.lit ((Zs r).map Z1),st):=by
 refine QK Y (fun A hA=>?_)
 have g5:=fun L=>ZQ hA (ro:=false) (L:=L) h.h5
 unfold AR.b5 at g5
 have hF:=fun L=>ZjV (h.push hA (ro:=false) (L:=L)) ho
 repeat'(first|refine Z5 Y (g5 _) Y Y ?_|refine ZE ?_|refine ZD ?_|refine ZF Y ?_|refine ZU Y Y ?_|refine ZB Y ?_|refine ZC ?_|refine Z2 Y Y ?_|refine ZG Y ?_|refine JA Y Y Y Y ?_|refine ZA Y Y Y (hF _) ?_|refine ZI ?_|refine ZP ?_|refine ZL ?_)
 all_goals try contradiction
 refine Zf hA (by simp) Y Y Y Y ?_
 rfl
theorem ZoY{lv b:Nat}{r:AR}(h:HasR st lv b r)(ho:AROk r):S Tb X7 [.ptr lv (b+5) 0 0 0] st=some (.tup [.lit (r.free.map (.int .i64)),.lit ((Js r.states 2).map ZO1)],st):=by
 refine QK Y (fun A hA=>?_)
 have g5:=fun L=>ZQ hA (ro:=false) (L:=L) h.h5
 unfold AR.b5 at g5
 have hF:=fun L=>Znh (h.push hA (ro:=false) (L:=L)).allRo ho.nb (by have:=ho.nn;have:=ho.n16;omega)
 have hW:=fun L=>ZSq (h.push hA (ro:=false) (L:=L)) ho.n16
 repeat'(first|refine Z5 Y (g5 _) Y Y ?_|refine XZ Y Y Y (hF _) ?_|refine ZE ?_|refine ZD ?_|refine ZF Y ?_|refine ZU Y Y ?_|refine ZB Y ?_|refine ZC ?_|refine Z2 Y Y ?_|refine ZG Y ?_|refine JA Y Y Y Y ?_|refine ZA Y Y Y (hW _) ?_|refine ZI ?_|refine ZP ?_|refine ZL ?_)
 all_goals try contradiction
 refine Xz hA (by simp) Y Y Y Y Y ?_
 rfl
theorem ZCY{r:AR}(ho:AROk r):(Zs r).length<=16384:=by
 have:=ZJb r.states 1 r.states.length
 have:=ho.n16
 unfold Zs Js;rw[List.length_map];omega
theorem ZSJ{N:ZO}(hN:GoodN N){x:Ro}(hx:RtOk N x):∀o∈Qe N x,∃y,lk N o=some y:=by
 intro o ho;unfold Qe at ho
 split at ho
 ·simp at ho
 ·rename_i h0
  obtain⟨y,x1,x2,x3,x4⟩:∃y,lk N x.at_=some y/\NdOk y/\y.h=x.h/\y.mea=x.m:=by
   rcases hx with rfl|w
   ·exact absurd Y h0
   ·exact w.2
  obtain⟨w,w1,_⟩:=Zqm hN x.h x.at_ y x1 x3 o ho;exact⟨w,w1⟩
theorem onceV_mem{v:List Nat}{x:Nat}:x∈Ja v↔x∈v:=(ZDZ v).2.1 x
theorem ZSs{o:Nat}:∀ {l:List Nat},l.Nodup->l.count o=if o∈l then 1 else 0
 | [],_=>by simp
 | a::l,h=>by
  rw[List.nodup_cons]at h;rw[List.count_cons,ZSs h.2]
  by_cases e:a=o
  ·subst e;simp[h.1]
  ·have:¬ o=a:=fun q=>e q.symm
   simp[e,this]
theorem ZjW(v:List Nat):(Ja v).Nodup:=(ZDZ v).1
theorem ZJ4{m:List Nat}(h1:l.Nodup)(h2:m.Nodup)(h:∀x,x∈l↔x∈m):l.Perm m:=(List.perm_ext_iff_of_nodup h1 h2).2 h
theorem Zqn(hl:∀x∈l,x<18446744073709551616):(l.map toH).map Fin.val=l:=by
 rw[List.map_map]
 conv=>rhs;rw[<- List.map_id l]
 refine List.map_congr_left fun x hx=>?_
 show x % 18446744073709551616=x
 have:=hl x hx
 omega
theorem ZJ5(hl:∀x∈l,x<18446744073709551616):(Zcu l).Perm l:=by
 have h:=(List.mergeSort_perm (l.map toH) leH).map Fin.val;rw[Zqn hl]at h;exact h
theorem Zh5(l:List Nat):(Zcu l).Pairwise fun a b=>a % 65536<=b % 65536:=by
 unfold Zcu;rw[List.pairwise_map]
 refine (ZJP _).imp fun {a b} h=>?_
 rw[ZV2]at h;omega
def Zh6(N:ZO):Prop:=∀o x,lk N o=some x->o<18446744073709551616
theorem AROk.h64{r:AR}(h:AROk r):Zh6 r.nodes:=fun o x hx=>by
 obtain⟨s,g,e,h1,h2,h3⟩:=h.key o x hx;obtain⟨g',k1,k2,k3⟩:=h.gen s h1;rw[h3]at k1
 have:=Option.some.inj k1
 have:=h.most
 have:=h.n16
 omega
theorem ZoZ{N:ZO}(hN:GoodN N)(h6:Zh6 N){x:Ro}(hx:RtOk N x)(ho:o∈Ja (Qe N x)):o<18446744073709551616:=by
 obtain⟨y,hy⟩:=ZSJ hN hx o (onceV_mem.1 ho);exact h6 o y hy
theorem ZaU{N:ZO}{p:Int->Bool}{c:List (Nat × Int)}(h:∀q∈c,q.1<18446744073709551616):∀o∈ZMS p c,o<18446744073709551616:=fun o ho=>by
 unfold ZMS at ho;obtain⟨q,hq,rfl⟩:=List.mem_map.1 ho;exact h q (List.mem_filter.1 hq).1
end Go.Q15
namespace Go.Q15
open Go Go.QAbs
open Go.ChangeMaps (setBlock)
variable {w:AV}{e:Env}{f g:FuncId}{a z:Int}{A:List (Bool × List Blk)}{args caps:LV}{k:List Fr}{l:List Nat}{s s0:B8}{d i ix la lm mx n o ver:Nat}{v x:Opd}{O:Orc}{ro:Ro}{st:St}{t:Tr}{Q:YD}
noncomputable def cLe:Code:=Proofs.Tryz.f50.body.getD .skip
noncomputable def oLe(i j:Nat):Oper:=((ZJZ cLe).getD i #[]).getD j default
noncomputable def xLeB:Code:=.block 1 (.seq (.region 4 #[oLe 4 0,oLe 4 1,oLe 4 2,oLe 4 3,oLe 4 4] false) (.seq (.region 5 #[oLe 5 0,oLe 5 1,oLe 5 2] false) (.cond (.tmp 17) (.region 6 #[oLe 6 0,oLe 6 1,oLe 6 2,oLe 6 3,oLe 6 4] false) .skip)))
noncomputable def xLe:Code:=.seq (.region 1 #[oLe 1 0] false) (.seq (.seq (.region 2 #[oLe 2 0,oLe 2 1] false) (.block 0 (.loop (.seq (.region 3 #[oLe 3 0,oLe 3 1] false) (.seq (.cond (.tmp 11) .skip (.exit 0)) xLeB))))) (.seq (.region 7 #[oLe 7 0,oLe 7 1,oLe 7 2] false) .ret))
theorem oLe_1_0:OpIs (oLe 1 0) (.assign (.const (.slice none 0 0))) 5:=⟨by kernel_rfl,by kernel_rfl,by kernel_rfl⟩
theorem oLe_2_0:OpIs (oLe 2 0) (.move (.tmp 0)) 8:=⟨by kernel_rfl,by kernel_rfl,by kernel_rfl⟩
theorem oLe_2_1:OpIs (oLe 2 1) (.range 94 (.tmp 8)) 9:=⟨by kernel_rfl,by kernel_rfl,by kernel_rfl⟩
theorem oLe_3_0:OpIs (oLe 3 0) (.next (.tmp 9) false) 10:=⟨by kernel_rfl,by kernel_rfl,by kernel_rfl⟩
theorem oLe_3_1:OpIs (oLe 3 1) (.extract (.tmp 10) 0) 11:=⟨by kernel_rfl,by kernel_rfl,by kernel_rfl⟩
theorem oLe_4_0:OpIs (oLe 4 0) (.entry (.tmp 9)) 12:=⟨by kernel_rfl,by kernel_rfl,by kernel_rfl⟩
theorem oLe_4_1:OpIs (oLe 4 1) (.extract (.tmp 12) 0) 13:=⟨by kernel_rfl,by kernel_rfl,by kernel_rfl⟩
theorem oLe_4_2:OpIs (oLe 4 2) (.extract (.tmp 12) 1) 14:=⟨by kernel_rfl,by kernel_rfl,by kernel_rfl⟩
theorem oLe_4_3:OpIs (oLe 4 3) (.assign (.tmp 13)) 6:=⟨by kernel_rfl,by kernel_rfl,by kernel_rfl⟩
theorem oLe_4_4:OpIs (oLe 4 4) (.assign (.tmp 14)) 7:=⟨by kernel_rfl,by kernel_rfl,by kernel_rfl⟩
theorem oLe_5_0:OpIs (oLe 5 0) (.move (.tmp 7)) 15:=⟨by kernel_rfl,by kernel_rfl,by kernel_rfl⟩
theorem oLe_5_1:OpIs (oLe 5 1) (.move (.tmp 1)) 16:=⟨by kernel_rfl,by kernel_rfl,by kernel_rfl⟩
theorem oLe_5_2:OpIs (oLe 5 2) (.binOp .geq 3 (.tmp 15) (.tmp 16) 3) 17:=⟨by kernel_rfl,by kernel_rfl,by kernel_rfl⟩
theorem oLe_6_0:OpIs (oLe 6 0) (.move (.tmp 5)) 18:=⟨by kernel_rfl,by kernel_rfl,by kernel_rfl⟩
theorem oLe_6_1:OpIs (oLe 6 1) (.move (.tmp 6)) 19:=⟨by kernel_rfl,by kernel_rfl,by kernel_rfl⟩
theorem oLe_6_2:OpIs (oLe 6 2) (.buildSlice 37 1 #[(0,.tmp 19)]) 20:=⟨by kernel_rfl,by kernel_rfl,by kernel_rfl⟩
theorem oLe_6_3:OpIs (oLe 6 3) (.call { callee:=.builtin .append,args:=#[.tmp 18,.tmp 20],argTypes:=#[37,37] }) 21:=⟨by kernel_rfl,by kernel_rfl,by kernel_rfl⟩
theorem oLe_6_4:OpIs (oLe 6 4) (.assign (.tmp 21)) 5:=⟨by kernel_rfl,by kernel_rfl,by kernel_rfl⟩
theorem oLe_7_0:OpIs (oLe 7 0) (.move (.tmp 5)) 22:=⟨by kernel_rfl,by kernel_rfl,by kernel_rfl⟩
theorem oLe_7_1:OpIs (oLe 7 1) (.call { callee:=.value (.func 45),args:=#[.tmp 22],argTypes:=#[37] }) 23:=⟨by kernel_rfl,by kernel_rfl,by kernel_rfl⟩
theorem oLe_7_2:OpIs (oLe 7 2) (.assign (.tmp 23)) 4:=⟨by kernel_rfl,by kernel_rfl,by kernel_rfl⟩
attribute [irreducible] oLe
def Zh7:Run:=fun e st=>match QAbs.look e 0,QAbs.look e 1 with
 | .map lv ix,.int .i64 n0=>(ZAe (st.get lv ix)).bind fun es=>(Zfu (fun n=>decide (n0<=n)) es).bind fun ks=>if ks.Nodup/\es.length<1000000000 then some (.ret,[(4,.lit ((srtH ks).map hAV))],st) else none
 | _,_=>none
structure ILe(n0:Int)(p:Int->Bool)(W:World)(a:Act)(b clock:Nat)(en:Array MapEntry)(seen:Array Nat)(a':Act)(W':World):Prop where
 it:Itr W' b W.heap.size clock en seen
 jk:Jk W.heap.size W W'
 sz:a'.tmps.size=a.tmps.size
 df:a'.defers=a.defers
 ev:a'.eval (.tmp 9)=.pointer (some ⟨W.heap.size,0,none⟩)
 big:W.heap.size+1<=W'.heap.size
 n0:a'.eval (.tmp 1)=.int .i64 n0
 out:∃ks:List H64,W'.ownsRow (W.heap.size+1) 32 1 (a'.eval (.tmp 5)) ks.length (ks.map encH)/\(a'.eval (.tmp 5)=.slice none 0 0↔ks=[])/\(ks++(ZBh en seen).filterMap (ZhS p)).Perm (en.toList.filterMap (ZhS p))
theorem Zr4{T:Tab}{W0:World}{B0:Bse}:CodeOk none Proofs.Tryz.prog (S T) 24 W0 B0 xLe Zh7:=by
 intro e st ρ W a0 r Q hx hr he hn hQ;unfold Zh7 at hx
 split at hx
 case h_2=>simp at hx
 rename_i lv ix n0 hl hl1
 simp only[oB]at hx;obtain⟨es,hes,ks0,hks,hx⟩:=hx
 split at hx
 case isFalse=>simp at hx
 rename_i hcnd
 obtain⟨hnd,hlen⟩:=hcnd;simp only[oJ]at hx;subst hx;have hg:=Jj hes;have h1n:=he 1;rw[hl1]at h1n;have hevn:a0.eval (.tmp 1)=.int .i64 n0:=Jr h1n;have hm:=he 0;rw[hl]at hm;generalize hm8:a0.tmps.getD 0 Go.undef=m8 at hm
 have hevm:a0.eval (.tmp 0)=m8:=by rw[<- hm8];rfl
 cases hm with
 | map hp =>
 obtain⟨p1,p2,r0,rfl,p3⟩:=hp
 have:=p3 es hg;subst this
 obtain⟨en,clock,h1,h2,hf⟩:=(hr.map lv ix es hg).ent;obtain⟨hsel,hall⟩:=Zj6 h2 hks
 have hsz:en.toList.length<1000000000:=by have:=h2.1;omega
 unfold xLe;refine wpIn_seq (wpIn_region ?_)
 show wpOpsIn (fen none) 0 _ #[oLe 1 0] _ [0] a0 W
 rw[wpOpsIn_cons]
 refine YU oLe_1_0 Y (by simp) (Jn (x:=.const (.slice none 0 0)) (.inr oLe_1_0.op)) ?_
 show Code.wpIn _ _ _ _ _ _ _
 generalize ha:a0.put (some 5) (a0.eval (.const (.slice none 0 0)))=a
 have sza:a.tmps.size=a0.tmps.size:=by rw[<- ha];simp[Act.put]
 have dfa:a.defers=a0.defers:=by rw[<- ha];rfl
 have hev8:a.eval (.tmp 0)=.map (some (ρ lv ix).b):=by rw[<- ha,Act.put_other (by decide)];exact hevm
 have hevn1:a.eval (.tmp 1)=.int .i64 n0:=by rw[<- ha,Act.put_other (by decide)];exact hevn
 have hev10:a.eval (.tmp 5)=.slice none 0 0:=by rw[<- ha];exact Act.put_look (by omega)
 clear ha;refine wpIn_seq (wpIn_seq (wpIn_region ?_))
 show wpOpsIn (fen none) 0 _ #[oLe 2 0,oLe 2 1] _ [0,1] a W
 rw[wpOpsIn_cons]
 refine YU oLe_2_0 Y (by simp) (Jn (x:=.tmp 0) (.inl oLe_2_0.op)) ?_
 rw[wpOpsIn_cons,hev8]
 refine YU oLe_2_1 Y (by simp) (ZSi (m:=.tmp 8) (t:=94) oLe_2_1.op (show Proofs.Tryz.prog.underlying 94=some (TypeDesc.map 32 3) by kernel_rfl) (Act.put_look (by omega)) h1) ?_
 show Code.wpIn _ _ _ _ _ _ _
 have hjk0:Jk W.heap.size W (W.alloc (.mapIter (some (ρ lv ix).b) clock #[] clock)):=by
  exact⟨rfl,rfl,rfl,by simp,fun i hi _=>Go.RowKit.Below.heap_alloc _ _ _ hi,.inl (Nat.le_refl _)⟩
 refine ZZv (o3:=oLe 3 0) (o4:=oLe 3 1) (it:=.tmp 9) (nx:=10) (ok:=11) hf oLe_3_0.op oLe_3_0.gd oLe_3_0.dst oLe_3_1.op oLe_3_1.gd oLe_3_1.dst
  (ILe n0 (fun n=>decide (n0<=n)) W a (ρ lv ix).b clock en) (fun seen a' W' h=>⟨h.ev,by have:=h.sz;omega,by have:=h.sz;omega,h.it⟩) ?_ ?_ ?_
 ·-- behind the loop
  intro seen a' W' h hl0;obtain⟨ks,hown,hnil,hperm⟩:=h.out;rw[hl0,List.filterMap_nil,lN,hsel]at hperm;have hsz':=h.sz
  show Code.wpIn _ _ _ _ _ _ _
  generalize ha1:(a'.put (some 10) (.tuple #[.bool false])).put (some 11) (.bool false)=a1
  have s1:a1.tmps.size=a0.tmps.size:=by rw[<- ha1];simpa [Act.put,sza] using hsz'
  have d1:a1.defers=a0.defers:=by rw[<- ha1];exact h.df.trans dfa
  have e10:a1.eval (.tmp 5)=a'.eval (.tmp 5):=by rw[<- ha1,Act.put_other (by decide),Act.put_other (by decide)]
  generalize a'.eval (.tmp 5)=vo at *
  refine wpIn_seq (wpIn_region ?_)
  show wpOpsIn (fen none) 0 _ #[oLe 7 0,oLe 7 1,oLe 7 2] _ [0,1,2] a1 W'
  rw[wpOpsIn_cons]
  refine YU oLe_7_0 Y (by simp) (Jn (x:=.tmp 5) (.inl oLe_7_0.op)) ?_
  rw[wpOpsIn_cons,e10]
  have hz:(a1.put (some 22) vo).eval (.tmp 22)=vo:=Act.put_look (by omega)
  have hc:Go.Calls Proofs.Tryz.prog 45 #[vo] W' fun e W2=>∃x,e=.returned x/\(Go.RowKit.Below W'.heap.size W' W2/\QAbs.R (cx st ρ W2 st.A.length) (.lit ((srtH ks0).map hAV)) x):=by
   have hsame:srtH ks=srtH ks0:=ZlC hperm;have hlen0:=hperm.length_eq
   have hks0:ks0.length<=1000000000:=by
    have h4:=List.length_filterMap_le (ZhS (fun n=>decide (n0<=n))) en.toList
    rw[hsel]at h4;omega
   rcases hown.2 with⟨rfl,hz0⟩|⟨g,cap,cur,rfl,hgb,hgc,hnc,hcm,hcs,htk⟩
   ·have:ks0=[]:=List.eq_nil_of_length_eq_zero (by omega)
    subst this;refine (hSort_nil W').mono ?_
    rintro e' W2 ⟨rfl,rfl⟩
    exact⟨_,rfl,Go.RowKit.Below.refl _ _,by rw[show srtH []=[] by simp[srtH]];exact .lit0 _ _⟩
   ·have hpos : 0 < ks.length := by
     rcases Nat.eq_zero_or_pos ks.length with h0|h0
     ·have:=hnil.2 (List.eq_nil_of_length_eq_zero h0)
      simp at this
     ·exact h0
    refine (hSort ⟨g,0,none⟩ cap ks (hperm.nodup_iff.2 hnd) hpos (by omega) W' (fun j u hj=>hown.cells Y j u hj)).mono ?_
    rintro e' W2 ⟨g2,cap2,rfl,hg2,hc1,hc2,hbel,hH⟩
    refine⟨_,rfl,hbel,?_⟩;rw[<- hsame]
    have hes:((srtH ks).map hAV).length=ks.length:=by rw[List.length_map,Zm0]
    have:=ZWR (C:=cx st ρ W2 st.A.length) (es:=(srtH ks).map hAV) (xs:=(srtH ks).map encH) (b:=g2) (o:=0) (w:=1) (c:=cap2) (a:=some ⟨g2,0,none⟩) ⟨by simp,fun i v x hv hx=>?_⟩ (fun i x hx=>?_) (by rw[hes];exact hc1) (fun _=>rfl)
    ·rw[hes]at this;exact this
    ·rw[jG,oM]at hv hx
     obtain⟨u,hu,rfl⟩:=hv;obtain⟨u2,hu2,rfl⟩:=hx;rw[hu]at hu2
     have:=Option.some.inj hu2
     subst this;exact .int _ _
    ·rw[jG,oM]at hx
     obtain⟨u,hu,rfl⟩:=hx
     refine⟨rfl,fun j v hv=>?_⟩
     have hj:j=0:=by
      have:=(Array.getElem?_eq_some_iff.1 hv).1
      simpa [encH,Value.cells] using this
     subst hj
     have hv2:v=encH u:=by simpa [encH,Value.cells] using hv.symm
     subst hv2
     have hi:i<(srtH ks).toArray.size:=by simpa using (List.getElem?_eq_some_iff.1 hu).1
     have hcell:=(hH i hi).1
     have hget:(srtH ks).toArray[i]! =u:=by
      rw[getElem!_pos _ i hi]
      have:=(List.getElem?_eq_some_iff.1 hu).2
      simpa using this
     rw[hget]at hcell
     refine⟨by rw[show 0+i*1+0=0+i by omega];exact hcell,?_⟩
     rintro⟨lv',ix',w2,ver',es',hg',h2',h3',h4'⟩
     have hmm:=(hr.arr _ _ _ _ _ hg').mem (0+i*1+0-(ρ lv' ix').o) (by omega)
     obtain⟨y,hy⟩:=Option.isSome_iff_exists.1 hmm.2.1
     have:=ZJh (W:=W) (b:=(ρ lv' ix').b) hy
     have:=h.jk.size
     omega
  refine ZlE (o:=oLe 7 1) (f:=.func 45) Y oLe_7_1.gd oLe_7_1.op Y Y Proofs.Tryz.call45 ?_
  show Go.Calls Proofs.Tryz.prog 45 #[(a1.put (some 22) vo).eval (.tmp 22)] W' _
  rw[hz];refine hc.mono ?_
  rintro e' W2 ⟨x,rfl,hbel,hR⟩
  refine⟨x,rfl,?_⟩;rw[oLe_7_1.dst,wpOpsIn_cons]
  refine YU oLe_7_2 Y (by simp) (Jn (x:=.tmp 23) (.inr oLe_7_2.op)) ?_
  rw[Act.put_look (by simp[Act.put];omega)]
  show Code.wpIn _ _ _ _ _ _ _
  refine wpIn_ret ?_
  have hjk2:Jk W.heap.size W W2:=by
   refine⟨hbel.os.trans h.jk.os,hbel.tape.trans h.jk.tape,hbel.output.trans h.jk.output,Nat.le_trans h.jk.size hbel.size,fun i hi hne=>?_,.inl (Nat.le_refl _)⟩
   rw[hbel.block i (by have:=h.jk.size;omega)]
   exact h.jk.blk i hi hne
  refine hQ _ ρ W2 (hr.jk hjk2 hr.b0) ?_ (by simpa [Act.put] using s1) d1
  intro t
  by_cases ht:t=4
  ·subst ht
   have q:(((a1.put (some 22) vo).put (some 23) x).put (some 4) x).eval (.tmp 4)=x:=Act.put_look (by simp[Act.put];omega)
   have q2:(((a1.put (some 22) vo).put (some 23) x).put (some 4) x).tmps.getD 4 Go.undef=x:=q
   show QAbs.R _ _ ((((a1.put (some 22) vo).put (some 23) x).put (some 4) x).tmps.getD 4 Go.undef)
   rw[q2];exact hR
  ·have q:QAbs.look [((4:Nat),(AV.lit ((srtH ks0).map hAV)))] t=.any:=by simp[QAbs.look,Ne.symm ht]
   show QAbs.R _ (QAbs.look [((4:Nat),(AV.lit ((srtH ks0).map hAV)))] t) _
   rw[q];exact .any _
 ·-- a round
  intro seen a' W' x w1 h hx hw hit hnew hjk;obtain⟨ks,hown,hnil,hperm⟩:=h.out;have hsz':=h.sz;obtain⟨hh,n,hkey,hval⟩:=hall x (ZJr hx)
  have hperm2:=(ZMI hf hx).filterMap (ZhS (fun n=>decide (n0<=n)))
  rw[List.filterMap_cons,Zj5 hkey hval]at hperm2;have hlb:W'.heap.size<=(setBlock w1 W.heap.size (.mapIter (some (ρ lv ix).b) clock (seen.push x.born) clock)).heap.size:=hjk.size;have hbig:=h.big
  generalize hW1:setBlock w1 W.heap.size (.mapIter (some (ρ lv ix).b) clock (seen.push x.born) clock)=W1 at *
  have hown1:=Zi2 hjk hown;have jk1:=h.jk.trans (Nat.le_refl _) hjk;clear hW1 hown hw;unfold xLeB;refine wpIn_block (wpIn_seq (wpIn_region ?_))
  show wpOpsIn (fen none) 0 _ #[oLe 4 0,oLe 4 1,oLe 4 2,oLe 4 3,oLe 4 4] _ [0,1,2,3,4] _ W1
  generalize ha1:(a'.put (some 10) (.tuple #[.bool true,x.key,x.val])).put (some 11) (.bool true)=a1
  have s1:a1.tmps.size=a0.tmps.size:=by rw[<- ha1];simpa [Act.put,sza] using hsz'
  have d1:a1.defers=a.defers:=by rw[<- ha1];exact h.df
  have e1:a1.eval (.tmp 9)=.pointer (some ⟨W.heap.size,0,none⟩):=by rw[<- ha1,Act.put_other (by decide),Act.put_other (by decide)];exact h.ev
  have e2:a1.eval (.tmp 5)=a'.eval (.tmp 5):=by rw[<- ha1,Act.put_other (by decide),Act.put_other (by decide)]
  have e5:a1.eval (.tmp 1)=.int .i64 n0:=by rw[<- ha1,Act.put_other (by decide),Act.put_other (by decide)];exact h.n0
  generalize a'.eval (.tmp 5)=vo at *
  clear ha1;rw[wpOpsIn_cons]
  refine YU oLe_4_0 Y (by simp) (ZJO (it:=.tmp 9) oLe_4_0.op e1 hnew hit.map hf (ZJr hx)) ?_
  rw[wpOpsIn_cons]
  refine YU oLe_4_1 Y (by simp) (ZCf (t:=.tmp 12) (k:=0) (x:=x.key) oLe_4_1.op (Act.put_look (by omega)) Y) ?_
  rw[wpOpsIn_cons]
  refine YU oLe_4_2 Y (by simp) (ZCf (t:=.tmp 12) (k:=1) (x:=x.val) oLe_4_2.op (by rw[Act.put_other (by decide)];exact Act.put_look (by omega)) Y) ?_
  generalize hb:((a1.put (some 12) (.tuple #[x.key,x.val])).put (some 13) x.key).put (some 14) x.val=a2
  have s2:a2.tmps.size=a0.tmps.size:=by rw[<- hb];simpa [Act.put] using s1
  have d2:a2.defers=a.defers:=by rw[<- hb];exact d1
  have f1:a2.eval (.tmp 9)=.pointer (some ⟨W.heap.size,0,none⟩):=by rw[<- hb,Act.put_other (by decide),Act.put_other (by decide),Act.put_other (by decide)];exact e1
  have f2:a2.eval (.tmp 5)=vo:=by rw[<- hb,Act.put_other (by decide),Act.put_other (by decide),Act.put_other (by decide)];exact e2
  have f3:a2.eval (.tmp 13)=x.key:=by rw[<- hb,Act.put_other (by decide)];exact Act.put_look (by simp[Act.put];omega)
  have f4:a2.eval (.tmp 14)=x.val:=by rw[<- hb];exact Act.put_look (by simp[Act.put];omega)
  have f5:a2.eval (.tmp 1)=.int .i64 n0:=by rw[<- hb,Act.put_other (by decide),Act.put_other (by decide),Act.put_other (by decide)];exact e5
  clear hb;rw[wpOpsIn_cons]
  refine YU oLe_4_3 Y (by simp) (Jn (x:=.tmp 13) (.inr oLe_4_3.op)) ?_
  rw[wpOpsIn_cons,f3]
  refine YU oLe_4_4 Y (by simp) (Jn (x:=.tmp 14) (.inr oLe_4_4.op)) ?_
  rw[Act.put_other (by decide),f4]
  show Code.wpIn _ _ _ _ _ _ _
  generalize hb:(a2.put (some 6) x.key).put (some 7) x.val=a3
  have s3:a3.tmps.size=a0.tmps.size:=by rw[<- hb];simpa [Act.put] using s2
  have d3:a3.defers=a.defers:=by rw[<- hb];exact d2
  have g1:a3.eval (.tmp 9)=.pointer (some ⟨W.heap.size,0,none⟩):=by rw[<- hb,Act.put_other (by decide),Act.put_other (by decide)];exact f1
  have g2:a3.eval (.tmp 5)=vo:=by rw[<- hb,Act.put_other (by decide),Act.put_other (by decide)];exact f2
  have g3:a3.eval (.tmp 6)=encH hh:=by rw[<- hb,Act.put_other (by decide),<- hkey];exact Act.put_look (by omega)
  have g4:a3.eval (.tmp 7)=.int .i64 n:=by rw[<- hb,<- hval];exact Act.put_look (by simp[Act.put];omega)
  have g5:a3.eval (.tmp 1)=.int .i64 n0:=by rw[<- hb,Act.put_other (by decide),Act.put_other (by decide)];exact f5
  clear hb;refine wpIn_seq (wpIn_region ?_)
  show wpOpsIn (fen none) 0 _ #[oLe 5 0,oLe 5 1,oLe 5 2] _ [0,1,2] a3 W1
  rw[wpOpsIn_cons]
  refine YU oLe_5_0 Y (by simp) (Jn (x:=.tmp 7) (.inl oLe_5_0.op)) ?_
  rw[wpOpsIn_cons,g4]
  refine YU oLe_5_1 Y (by simp) (Jn (x:=.tmp 1) (.inl oLe_5_1.op)) ?_
  rw[Act.put_other (by decide),g5,wpOpsIn_cons]
  refine YU oLe_5_2 Y (by simp) (Zm1 (x:=.tmp 15) (y:=.tmp 16) (k:=.i64) (m:=n) (n:=n0) (b:=decide (n0<=n)) oLe_5_2.op (by rw[Act.put_other (by decide)];exact Act.put_look (by omega)) (Act.put_look (by simp[Act.put];omega)) rfl) ?_
  show Code.wpIn _ _ _ _ _ _ _
  generalize hb:((a3.put (some 15) (.int .i64 n)).put (some 16) (.int .i64 n0)).put (some 17) (.bool (decide (n0<=n)))=a4
  have s4:a4.tmps.size=a0.tmps.size:=by rw[<- hb];simpa [Act.put] using s3
  have d4:a4.defers=a.defers:=by rw[<- hb];exact d3
  have k1:a4.eval (.tmp 9)=.pointer (some ⟨W.heap.size,0,none⟩):=by rw[<- hb,Act.put_other (by decide),Act.put_other (by decide),Act.put_other (by decide)];exact g1
  have k2:a4.eval (.tmp 5)=vo:=by rw[<- hb,Act.put_other (by decide),Act.put_other (by decide),Act.put_other (by decide)];exact g2
  have k3:a4.eval (.tmp 6)=encH hh:=by rw[<- hb,Act.put_other (by decide),Act.put_other (by decide),Act.put_other (by decide)];exact g3
  have k4:a4.eval (.tmp 17)=.bool (decide (n0<=n)):=by rw[<- hb];exact Act.put_look (by simp[Act.put];omega)
  have k5:a4.eval (.tmp 1)=.int .i64 n0:=by rw[<- hb,Act.put_other (by decide),Act.put_other (by decide),Act.put_other (by decide)];exact g5
  clear hb
  by_cases hp:decide (n0<=n)=true
  ·rw[if_pos hp]at hperm2
   refine wpIn_cond_true (by rw[k4,hp]) (wpIn_region ?_)
   show wpOpsIn (fen none) 0 _ #[oLe 6 0,oLe 6 1,oLe 6 2,oLe 6 3,oLe 6 4] _ [0,1,2,3,4] a4 W1
   rw[wpOpsIn_cons]
   refine YU oLe_6_0 Y (by simp) (Jn (x:=.tmp 5) (.inl oLe_6_0.op)) ?_
   rw[wpOpsIn_cons,k2]
   refine YU oLe_6_1 Y (by simp) (Jn (x:=.tmp 6) (.inl oLe_6_1.op)) ?_
   rw[Act.put_other (by decide),k3,wpOpsIn_cons]
   refine YU oLe_6_2 Y (by simp) (ZlF (h:=hh) oLe_6_2.op (Act.put_look (by simp[Act.put];omega))) ?_
   have hcnt:ks.length<=1000000000:=by
    have h3:=hperm.length_eq
    have h4:=List.length_filterMap_le (ZhS (fun n=>decide (n0<=n))) en.toList
    rw[lL]at h3;omega
   obtain⟨i0,z,q1,q2,q3,q4,q5⟩:=hinfo;have hown2:=hown1.alloc (.cells #[encH hh] 32)
   have hsz2:(W1.alloc (.cells #[encH hh] 32)).heap.size=W1.heap.size+1:=by simp
   obtain⟨v',W3,hrun,hown3,hgr,hiff⟩:=run_append_own (P:=Proofs.Tryz.prog) (w:=W1.alloc (.cells #[encH hh] 32)) (W.heap.size+1) 37 (oLe 6 3).type 32 i0 z 1 8 (by kernel_rfl) q1 q2 q3 q4 q5 (by decide) vo ks.length (ks.map encH) hown2
    ⟨W1.heap.size,0,none⟩ 1 1 [encH hh] rfl (fun j u hj=>by
     match j,hj with
     | 0,hj =>
      simp only[List.getElem?_cons_zero,oJ]at hj;subst hj
      show (W1.alloc (.cells #[encH hh] 32)).cell? ⟨W1.heap.size,0+0,none⟩=_
      rw[World.cell?_alloc_new];rfl
     | j+1,hj=>simp at hj) (fun u hu=>by simp only[List.mem_singleton]at hu;subst hu;rfl) (by unfold maxLen;omega) (by omega) (by omega)
   rw[wpOpsIn_cons]
   refine YU oLe_6_3 Y (by simp) (ZlD (v:=vo) (ad:=⟨W1.heap.size,0,none⟩) (m:=1) (c:=1) oLe_6_3.op (by rw[Act.put_other (by decide),Act.put_other (by decide)];exact Act.put_look (by omega)) (Act.put_look (by simp[Act.put];omega)) hrun) ?_
   rw[wpOpsIn_cons]
   refine YU oLe_6_4 Y (by simp) (Jn (x:=.tmp 21) (.inr oLe_6_4.op)) ?_
   rw[Act.put_look (by simp[Act.put];omega)]
   have hblk:∀i,i<=W.heap.size->W3.heap[i]?=W1.heap[i]?:=fun i hi=>by
    rw[hgr.block i (by omega) (fun q=>?_)]
    ·exact Go.RowKit.Below.heap_alloc _ _ _ (by omega)
    ·have:=(hown2.lt i q.symm).1
     omega
   have hsz3:=hgr.size
   refine⟨rfl,⟨by rw[hblk _ (by have:=QH h1;omega)];exact hit.map,clock,Nat.le_refl _,by rw[hblk _ (Nat.le_refl _)];exact hnew⟩,⟨hgr.os.trans jk1.os,hgr.tape.trans jk1.tape,hgr.output.trans jk1.output,by have:=jk1.size;omega,fun i hi hne=>?_,.inl (Nat.le_refl _)⟩,by simpa [Act.put,sza] using s4,d4,?_,by omega,by rw[Act.put_other (by decide),Act.put_other (by decide),Act.put_other (by decide),Act.put_other (by decide),Act.put_other (by decide)];exact k5,ks++[hh],?_,?_,?_⟩
   ·rw[hblk i (by omega)];exact jk1.blk i hi hne
   ·rw[Act.put_other (by decide),Act.put_other (by decide),Act.put_other (by decide),Act.put_other (by decide),Act.put_other (by decide)];exact k1
   ·rw[Act.put_look (by simp[Act.put];omega),lL,List.map_append];exact hown3
   ·rw[Act.put_look (by simp[Act.put];omega),hiff];simp
   ·refine List.Perm.trans ?_ hperm
    rw[List.append_assoc];exact (hperm2.append_left ks).symm
  ·rw[if_neg hp]at hperm2
   refine wpIn_cond_false (by rw[k4];simpa using hp) (wpIn_skip ?_)
   refine⟨rfl,hit,jk1,by rw[s4,sza],d4,k1,by omega,k5,ks,by rw[k2];exact hown1,by rw[k2];exact hnil,?_⟩
   exact (hperm2.append_left ks).symm.trans hperm
 ·refine⟨⟨?_,clock,Nat.le_refl _,?_⟩,hjk0,by simp[Act.put],rfl,Act.put_look (by simp[Act.put];omega),by simp,by rw[Act.put_other (by decide),Act.put_other (by decide)];exact hevn1,[],?_,?_,?_⟩
  ·exact hjk0.heap h1 Y
  ·exact World.alloc_heap_new _ _
  ·rw[Act.put_other (by decide),Act.put_other (by decide),hev10];exact World.ownsRow_nil _ _ _ _
  ·rw[Act.put_other (by decide),Act.put_other (by decide),hev10];simp
  ·rw[ZdW];exact .refl _
end Go.Q15
namespace Go.Q15
open Go Go.QAbs
variable {w:AV}{e:Env}{f g:FuncId}{a z:Int}{A:List (Bool × List Blk)}{args caps:LV}{k:List Fr}{l:List Nat}{s s0:B8}{d i ix la lm mx n o ver:Nat}{v x:Opd}{O:Orc}{ro:Ro}{st:St}{t:Tr}{Q:YD}
def pL1:PC:=.seq (R [0,1] [⟨(some 4),none,false,.mv (.v .nils)⟩]) .skip
def rsL:List RV:=[.s 4]
theorem Zss:toP Proofs.Tryz.prog 24 1 [⟨[0,1],[],[],[],[],[]⟩] cLe=some ((pL1,xLe),[]):=by kernel_rfl
theorem Zr5:FrX Zh7:=FrX.of fun e st r hr=>by
 unfold Zh7 at hr ⊢
 split at hr
 case h_2=>simp at hr
 rename_i lv ix n0 h1 h2
 simp only[oB]at hr;obtain⟨es,hes,ks,hks,hr⟩:=hr
 split at hr
 case isFalse=>simp at hr
 rename_i hc
 simp only[oJ]at hr;subst hr
 refine⟨rfl,fun M i B hh=>?_⟩
 have hg:=Jj hes;simp only[Qp hh lv ix _ hg];simp only[ZAe,oS,hks,if_pos hc]
noncomputable def leE:Ent:=.base (fnO (ZGs (S T3) itS Zh7 pL1) rsL)
noncomputable def tx:List (FuncId × Ent):=(JF,leE)::tw
noncomputable def TX:Tab:=Xy tx
theorem Zr6(hT:TabOk Proofs.Tryz.prog T3)(hm:Proofs.Tryz.prog.follows .mixedOrders=true)(hf:Proofs.Tryz.prog.funcs[JF]?=some Proofs.Tryz.f50):ZKn Proofs.Tryz.prog JF leE:=by
 refine Zsa (c:=cLe) (O:=S T3) hf (by kernel_rfl) (fun W0 B0 hg=>?_) (ZdX hm hT Zr5 _) (by kernel_rfl)
 exact Zm2 (nt:=Proofs.Tryz.f50.ntmps) hm hT hg 1 cLe _ [] pL1 xLe Zss Zr4
theorem leX:TLe TW TX:=fun g y hg=>ZGX (l:=tw) (by decide +kernel) g y hg
theorem upX{r:AV × St}(h:S TW f args st=some r):S TX f args st=some r:=Zdp leX _ _ _ _ h
theorem Zr7{r:AV × St}(h:S Tb f args st=some r):S TX f args st=some r:=upX (upW (upV (up3 h)))
theorem up3X{r:AV × St}(h:S T3 f args st=some r):S TX f args st=some r:=upX (upW (upV h))
theorem Zqo{lv:Nat}{n0:Int}{es:List (AV × AV)}{ks:List H64}(h0:QAbs.look e 0=.map lv ix)(h1:QAbs.look e 1=.int .i64 n0)(hg:st.get lv ix=some (.map es))(hs:Zfu (fun n=>decide (n0<=n)) es=some ks)(hn:ks.Nodup)(hl:es.length<1000000000):
 Zh7 e st=some (.ret,[(4,.lit ((srtH ks).map hAV))],st):=by
 unfold Zh7;simp only[h0,h1,hg,ZAe,oS,hs];rw[if_pos ⟨hn,hl⟩]
theorem ZSK{lv:Nat}{n0:Int}{c:List (Nat × Int)}(hlv:lv<=st.A.length)(hg:st.get lv ix=some (.map (J0 c)))(hn:(c.map Prod.fst).Nodup)(h6:∀q∈c,q.1<18446744073709551616)(hl:c.length<1000000000):
 S TX JF [.map lv ix,.int .i64 n0] st=some (.lit ((Zcu (ZMS (fun n=>decide (n0<=n)) c)).map Z1),st):=by
 refine s_pr (X:=Zh7) (pre:=pL1) (rs:=rsL) Y (fun A hA=>?_)
 have hs:=ZkV (fun n=>decide (n0<=n)) c h6
 have hnd:=ZV8 (ZaU (N:=[]) h6) (ZaJ (p:=fun n=>decide (n0<=n)) hn)
 have he:(srtH ((ZMS (fun n=>decide (n0<=n)) c).map toH)).map hAV=(Zcu (ZMS (fun n=>decide (n0<=n)) c)).map Z1:=by rw[Zqc];rfl
 have hl2:(J0 c).length<1000000000:=by unfold J0;rw[List.length_map];exact hl
 have g:=ZQ hA (ro:=false) (L:=[]) hg;rw[<- he]
 repeat'(first|refine ZE ?_|refine ZD ?_|refine ZF Y ?_|refine ZB Y ?_|refine ZC ?_|refine ZI ?_|refine ZL ?_)
 refine .inr ⟨rfl,_,_,_,Zqo Y Y g hs hnd hl2,?_⟩
 refine Zf hA (by simp) Y Y Y Y ?_
 rfl
open Classical in
def Zst:PC:=(R [0,1,2] [⟨(some 6),none,false,.mv (.v (.int .i64 0))⟩,⟨(some 7),none,false,.mv (.v (.int .i64 0))⟩,⟨(some 8),none,false,.mv (.v .nilmap)⟩,⟨(some 9),none,false,.mv (.v (.int .i64 0))⟩])
def Zsu:PC:=(R [0,2,9,10] [⟨(some 19),none,false,.mv (.s 0)⟩,⟨(some 20),none,false,.mv (.s 1)⟩,⟨(some 21),none,false,.call .norm (.v (.func (.func Ye) [] [])) [(.s 19),(.s 20)]⟩,⟨(some 18),none,false,.mv (.s 21)⟩,⟨(some 22),none,false,.ext (.s 18) 0⟩,⟨(some 23),none,false,.ext (.s 18) 1⟩,⟨(some 10),none,false,.mv (.s 22)⟩,⟨(some 9),none,false,.mv (.s 23)⟩])
def Zsv:PC:=(R [0,2,9,10,25] [⟨(some 24),none,false,.mv (.s 9)⟩,⟨(some 25),none,false,.bin .neq (.s 24) (.v (.int .i64 0))⟩])
def Zsw:PC:=(R [6,7,8,9] [⟨(some 26),none,false,.mv (.s 9)⟩,⟨(some 6),none,false,.mv (.v (.int .i64 0))⟩,⟨(some 7),none,false,.mv (.v (.int .i64 0))⟩,⟨(some 8),none,false,.mv (.v .nilmap)⟩,⟨(some 9),none,false,.mv (.s 26)⟩])
def Zsx:PC:=(R [0,2,10,11] [⟨(some 27),none,false,.mkmap⟩,⟨(some 11),none,false,.mv (.s 27)⟩])
def Zsy:PC:=(R [0,10,11,28,29,30] [⟨(some 28),none,false,.mv (.s 2)⟩,⟨(some 29),none,false,.len 1 (.s 28)⟩,⟨(some 30),none,false,.mv (.v (.int .i64 0))⟩])
def Zsz:PC:=(R [0,10,11,28,29,30,31] [⟨(some 31),none,false,.bin .lss (.s 30) (.s 29)⟩])
def Zs0:PC:=(R [0,10,11,13,28,29,30] [⟨(some 32),none,false,.ixS 1 (.s 28) (.s 30)⟩,⟨(some 33),none,false,.ld false 1 (.s 32)⟩,⟨(some 13),none,false,.mv (.s 33)⟩])
def Zs1:PC:=(R [0,10,11,13,28,29,30,42] [⟨(some 34),none,false,.mv (.s 0)⟩,⟨(some 35),none,false,.mv (.s 13)⟩,⟨(some 36),none,false,.call .norm (.v (.func (.func Yu) [] [])) [(.s 34),(.s 35)]⟩,⟨(some 37),none,false,.un .not (.s 36)⟩,⟨(some 38),none,false,.mv (.s 37)⟩,⟨(some 39),(some (38,false)),false,.mv (.s 11)⟩,⟨(some 40),(some (38,false)),false,.mv (.s 13)⟩,⟨(some 41),(some (38,false)),false,.look 0 (.bool false) false (.s 39) (.s 40)⟩,⟨(some 42),none,false,.pick (.s 38) (.v (.bool true)) (.s 41)⟩])
def Zs2:PC:=(R [6,7,8,9] [⟨(some 6),none,false,.mv (.v (.int .i64 0))⟩,⟨(some 7),none,false,.mv (.v (.int .i64 0))⟩,⟨(some 8),none,false,.mv (.v .nilmap)⟩,⟨(some 9),none,false,.mv (.v (.int .i64 24))⟩])
def Zr8:PC:=(R [0,10,11,28,29,30] [⟨(some 43),none,false,.mv (.s 11)⟩,⟨(some 44),none,false,.mv (.s 13)⟩,⟨none,none,false,.mupd 0 (.s 43) (.s 44) (.v (.bool true))⟩])
def Zr9:PC:=(R [0,10,11,28,29,30] [⟨(some 45),none,false,.bin .add (.s 30) (.v (.int .i64 1))⟩,⟨(some 30),none,false,.mv (.s 45)⟩])
def ZsA:PC:=(R [0,8,10,11] [⟨(some 46),none,false,.mkmap⟩,⟨(some 8),none,false,.mv (.s 46)⟩])
def ZsB:PC:=(R [8,10,11,48,49,50] [⟨(some 47),none,false,.mv (.s 0)⟩,⟨(some 48),none,false,.call .norm (.v (.func (.func J5) [] [])) [(.s 47)]⟩,⟨(some 49),none,false,.len 1 (.s 48)⟩,⟨(some 50),none,false,.mv (.v (.int .i64 0))⟩])
def ZsC:PC:=(R [8,10,11,48,49,50,51] [⟨(some 51),none,false,.bin .lss (.s 50) (.s 49)⟩])
def ZsD:PC:=(R [8,10,11,15,48,49,50] [⟨(some 52),none,false,.ixS 1 (.s 48) (.s 50)⟩,⟨(some 53),none,false,.ld false 1 (.s 52)⟩,⟨(some 15),none,false,.mv (.s 53)⟩])
def ZsE:PC:=(R [8,10,11,48,49,50] [⟨(some 54),none,false,.mv (.s 8)⟩,⟨(some 55),none,false,.mv (.s 15)⟩,⟨none,none,false,.mupd 0 (.s 54) (.s 55) (.v (.int .i64 1))⟩])
def ZsF:PC:=(R [8,10,11,48,49,50] [⟨(some 56),none,false,.bin .add (.s 50) (.v (.int .i64 1))⟩,⟨(some 50),none,false,.mv (.s 56)⟩])
def ZsG:PC:=(R [6,7,8,9] [⟨(some 75),none,false,.mv (.s 10)⟩,⟨(some 76),none,false,.len 2 (.s 75)⟩,⟨(some 77),none,false,.mv (.s 11)⟩,⟨(some 78),none,false,.len 2 (.s 77)⟩,⟨(some 79),none,false,.mv (.s 8)⟩,⟨(some 6),none,false,.mv (.s 76)⟩,⟨(some 7),none,false,.mv (.s 78)⟩,⟨(some 8),none,false,.mv (.s 79)⟩,⟨(some 9),none,false,.mv (.v (.int .i64 0))⟩])
def ZsH:PC:=.seq Zsz (D (E 31 .skip (.exit 0)) (D (.block 1 (D Zs0 (D (D Zs1 (E 42 (D Zs2 .ret) .skip)) Zr8))) Zr9))
def ZsI:PC:=.seq ZsC (D (E 51 .skip (.exit 2)) (D (.block 3 (D ZsD ZsE)) ZsF))
def pPa:PC:=.seq Zst (D Zsu (D (D Zsv (E 25 (D Zsw .ret) .skip)) (D Zsx (D (D Zsy (.block 0 (.loop ZsH))) (D ZsA (D (D ZsB (.block 2 (.loop ZsI))) .skip))))))
def Zoa:PC:=.seq ZsG .ret
def h_Pa:List Hint:=[⟨[0,1,2],[],[],[],[],[]⟩,⟨[0,2,9,10],[],[],[],[],[]⟩,⟨[0,2,9,10,25],[],[],[],[],[]⟩,⟨[6,7,8,9],[],[],[],[],[]⟩,⟨[0,2,10,11],[],[],[],[],[]⟩,⟨[0,10,11,28,29,30],[],[],[],[],[]⟩,⟨[0,10,11,28,29,30,31],[],[],[],[],[]⟩,⟨[0,10,11,13,28,29,30],[],[],[],[],[]⟩,⟨[0,10,11,13,28,29,30,42],[],[],[],[],[]⟩,⟨[6,7,8,9],[],[],[],[],[]⟩,⟨[0,10,11,28,29,30],[],[],[],[],[]⟩,⟨[0,10,11,28,29,30],[],[],[],[],[]⟩,⟨[0,8,10,11],[],[],[],[],[]⟩,⟨[8,10,11,48,49,50],[],[],[],[],[]⟩,⟨[8,10,11,48,49,50,51],[],[],[],[],[]⟩,⟨[8,10,11,15,48,49,50],[],[],[],[],[]⟩,⟨[8,10,11,48,49,50],[],[],[],[],[]⟩,⟨[8,10,11,48,49,50],[],[],[],[],[]⟩]
def Zs3:List Hint:=[⟨[6,7,8,9],[],[],[],[],[]⟩]
def rsP:List RV:=[.s 6,.s 7,.s 8,.s 9]
theorem Zs4:toP Proofs.Tryz.prog 80 7 h_Pa cPa=some ((pPa,xPa),[]):=by kernel_rfl
theorem Zs5:YK Proofs.Tryz.prog 80 Zs3 xPaE=some (Zoa,[]):=by kernel_rfl
noncomputable def Zlm(O:Orc):Run:=fun e st=>(ZaC e st).bind (JJ fun e st=>(ZaD e st).bind (JJ (exec O itS Zoa)))
theorem ZsJ{T:Tab}(hm:Proofs.Tryz.prog.follows .mixedOrders=true)(hT:TabOk Proofs.Tryz.prog T){W0:World}{B0:Bse}(hg:KG Proofs.Tryz.prog W0 B0):CodeOk none Proofs.Tryz.prog (S T) 80 W0 B0 xPa (Zlm (S T)) :=
 sPaA_ok.seq (sPaB_ok.seq (ZhR hm hT Zs5 hg))
theorem ZsK{T:Tab}(hm:Proofs.Tryz.prog.follows .mixedOrders=true)(hT:TabOk Proofs.Tryz.prog T):FrX (Zlm (S T)) :=
 ZBa ZqK fun x r hr=>ZCt (ZBa ZqL fun x r hr=>ZCt (ZdO hm hT Zoa) hr) hr
noncomputable def paE:Ent:=.base (fnK (ZGs (S T3) itS (Zlm (S T3)) pPa) rsP)
noncomputable def tz:List (FuncId × Ent):=(JT,paE)::tx
noncomputable def TZ:Tab:=Xy tz
theorem ZsL(hT:TabOk Proofs.Tryz.prog T3)(hm:Proofs.Tryz.prog.follows .mixedOrders=true)(hf:Proofs.Tryz.prog.funcs[JT]?=some Proofs.Tryz.f52):ZKn Proofs.Tryz.prog JT paE:=by
 refine Zrc (c:=cPa) (O:=S T3) hf (by kernel_rfl) (fun W0 B0 hg=>?_) (ZdX hm hT (ZsK hm hT) _) (by kernel_rfl)
 exact Zm2 (nt:=Proofs.Tryz.f52.ntmps) hm hT hg 7 cPa h_Pa [] pPa xPa Zs4 (ZsJ hm hT hg)
theorem leZ:TLe TX TZ:=fun g y hg=>ZGX (l:=tx) (by decide +kernel) g y hg
theorem upZ{r:AV × St}(h:S TX f args st=some r):S TZ f args st=some r:=Zdp leZ _ _ _ _ h
theorem ZaV{r:AV × St}(h:S Tb f args st=some r):S TZ f args st=some r:=upZ (Zr7 h)
def J1(N:ZO)(rs:List Ro):List (Nat × Int):=rs.foldl (fun c r=>ZBI c (Ja (Qe N r))) []
theorem Zdx(N:ZO)(rs:List Ro)(r:Ro):J1 N (rs++[r])=ZBI (J1 N rs) (Ja (Qe N r)):=by simp[J1]
def Jb(rs:List Ro):List Blk:=rs.map fun r=>.arr 5 0 [r.av]
theorem ZJ6(rs:List Ro)(r:Ro):Jb (rs++[r])=Jb rs++[.arr 5 0 [r.av]]:=by simp[Jb]
theorem ZaW(N:ZO):∀(rs:List Ro) (c:List (Nat × Int)),(c.map Prod.fst).Nodup->((rs.foldl (fun c r=>ZBI c (Ja (Qe N r))) c).map Prod.fst).Nodup
 | [],c,h=>h
 | r::rs,c,h=>ZaW N rs _ (ZJ3 _ c h).1
theorem ZPF(N:ZO)(o:Nat):∀(rs:List Ro) (c:List (Nat × Int)),Yn o (rs.foldl (fun c r=>ZBI c (Ja (Qe N r))) c)=Yn o c+((rs.filter fun r=>decide (o∈Ja (Qe N r))).length:Int)
 | [],c=>by simp
 | r::rs,c=>by
  rw[List.foldl_cons,ZPF N o rs,ZJ2,ZSs (ZjW _),List.filter_cons]
  by_cases h:o∈Ja (Qe N r)
  ·simp[h];omega
  ·simp[h]
theorem ZPG(N:ZO)(o:Nat):∀(rs:List Ro) (c:List (Nat × Int)),(c.map Prod.fst).Nodup->(o∈(rs.foldl (fun c r=>ZBI c (Ja (Qe N r))) c).map Prod.fst↔o∈c.map Prod.fst\/∃r∈rs,o∈Ja (Qe N r))
 | [],c,_=>by simp
 | r::rs,c,h=>by
  rw[List.foldl_cons,ZPG N o rs _ (ZJ3 _ c h).1,(ZJ3 _ c h).2];simp only[List.mem_cons,exists_eq_or_imp]
  constructor
  ·rintro ((q|q)|q)
   ·exact .inl q
   ·exact .inr (.inl q)
   ·exact .inr (.inr q)
  ·rintro (q|q|q)
   ·exact .inl (.inl q)
   ·exact .inl (.inr q)
   ·exact .inr q
section
variable {O:Orc}{k:List Fr}{Q:YD}{e:Env}{A:List (Bool × List Blk)}{X Y':List Blk}{keep:List Nat}{is:List QAbs.PI}
theorem ZJ7{L:List Blk}(h:Is O is keep k Q ((d,.map A.length L.length)::e) ⟨A,false,L++[Blk.map []]⟩):Is O (⟨some d,none,false,.mkmap⟩::is) keep k Q e ⟨A,false,L⟩:=by
 exact Z4 (v:=.map A.length L.length) (st':=⟨A,false,L++[Blk.map []]⟩) (by simp only[Zi,evalPO,oS,St.new_cur,ZJf]) h
theorem ZGb{kk:Nat}{i:Opd}{ki:AV}{es es':List (AV × AV)}(hi0:ix=X.length)
 (hx:Ze e x=some (.map A.length ix)) (hi:Ze e i=some ki) (hki:J2 kk ki=true) (hv:Ze e v=some w) (hs:ZZ QD (A.length+1) ⟨A,false,X++(.map es::Y')⟩ w=some (w,⟨A,false,X++(.map es::Y')⟩)) (hp:ZBV ki w es=some es')
 (h:Is O is keep k Q e ⟨A,false,X++(.map es'::Y')⟩):Is O (⟨none,none,false,.mupd kk x i v⟩::is) keep k Q e ⟨A,false,X++(.map es::Y')⟩:=by
 subst hi0
 refine Zlk (ix:=X.length) hx hi hki hv hs (by rw[List.getElem?_append_right (Nat.le_refl _),Nat.sub_self];rfl) hp ?_
 rw[List.set_append_right _ _ (Nat.le_refl _),Nat.sub_self];exact h
end
theorem Zln{L:List Blk}{b:Nat}{N:ZO}(hN:GoodN N)(hR:∀L,Rd ⟨A,false,L⟩ la (b+5) N){rs:List Ro}(hrs:∀r∈rs,RtOk N r)(hl:rs.length<=100):
 S T3 Ye [.ptr la (b+5) 0 0 0,.lit (rs.map Ro.av)] ⟨A,false,L⟩=some (.tup [.map A.length (L++Jb rs).length,.int .i64 0],
  ⟨A,false,(L++Jb rs)++(.map (J0 (J1 N rs))::Jb rs)⟩):=by
 refine ZAQ Y ?_
 have p1:∀r:Ro,JL r.av true 0 5=some r.av:=fun r=>rfl
 repeat'(first|refine JG Y ?_|refine ZE ?_|refine ZD ?_|refine ZF Y ?_|refine ZB Y ?_|refine ZC ?_|refine ZG Y ?_|refine JA Y Y Y Y ?_|refine ZI ?_|refine ZJ ?_)
 all_goals try first|contradiction|omega
 refine Zt (α:=Nat) (fun i=>[(0,.ptr la (b+5) 0 0 0),(1,.lit (rs.map Ro.av)),(18,.lit (rs.map Ro.av)),(19,.int .i64 rs.length),(20,.int .i64 i)]) (fun i=>⟨A,false,L++Jb (rs.take i)⟩) (fun i=>i<=rs.length) (fun i=>rs.length-i) 0 Y (by simp[Jb]) (by omega) ?_
 intro i hi
 rcases Nat.lt_or_ge i rs.length with hlt|hge
 ·obtain⟨r,hr⟩:∃r,rs[i]?=some r:=⟨rs[i]'hlt,jE _⟩
  have q:0<=((i:Nat):Int)/\rs[((i:Nat):Int).toNat]?=some r:=⟨by omega,by rw[show ((i:Nat):Int).toNat=i by omega];exact hr⟩
  have hC:=fun L=>up13 (Zf8 hN (hR L) (hrs r (jM hr)))
  have ht:rs.take (i+1)=rs.take i++[r]:=ZW hr
  repeat'(first|refine QY (f:=Ro.av) Y Y q (fun _=>rfl) ?_|refine QF Y (p1 _) ?_|refine ZE ?_|refine ZD ?_|refine ZF Y ?_|refine ZB Y ?_|refine ZC ?_|refine Ql Y Y Y ?_|(refine cm0 Y Y Y ?_ ?_<;>intro _<;>try omega)|refine ZS Y ?_|refine ZG Y ?_|refine Zj Y Y (by omega) ?_|refine Z0 Y Y Y ?_|refine J9 Y Y Y Y Y Y ?_|refine ZA Y Y Y (hC _) ?_|refine ZI ?_|refine ZJ ?_|refine Zz ?_|refine Z7 ?_)
  all_goals try first|contradiction|omega
  all_goals refine⟨i+1,⟨rfl,?_⟩,by omega,by omega⟩
  all_goals (rw[ht,ZJ6,<- List.append_assoc];rfl)
 obtain rfl:i=rs.length:=by omega
 rw[List.take_length];obtain⟨X,hX⟩:∃X,X=L++Jb rs:=⟨_,rfl⟩;rw[<- hX]
 repeat'(first|refine ZJ7 ?_|refine JG Y ?_|refine ZE ?_|refine ZD ?_|refine ZF Y ?_|refine ZB Y ?_|refine ZC ?_|(refine cm0 Y Y Y ?_ ?_<;>intro _<;>try omega)|refine ZG Y ?_|refine Zo ?_|refine ZJ ?_|refine Zc ?_|refine Za Y ?_|refine Zk ?_)
 all_goals try first|contradiction|omega
 refine Zt (α:=Nat) (fun i=>[(0,.ptr la (b+5) 0 0 0),(9,.map A.length X.length),(32,.lit (rs.map Ro.av)),(33,.int .i64 rs.length),(34,.int .i64 i)]) (fun i=>⟨A,false,X++(.map (J0 (J1 N (rs.take i)))::Jb (rs.take i))⟩) (fun i=>i<=rs.length) (fun i=>rs.length-i) 0 Y Y (by omega) ?_
 intro i hi
 rcases Nat.lt_or_ge i rs.length with hlt|hge
 ·obtain⟨r,hr⟩:∃r,rs[i]?=some r:=⟨rs[i]'hlt,jE _⟩
  have q:0<=((i:Nat):Int)/\rs[((i:Nat):Int).toNat]?=some r:=⟨by omega,by rw[show ((i:Nat):Int).toNat=i by omega];exact hr⟩
  have hro:=hrs r (jM hr)
  have hNd:=fun L=>ZkT hN (hR L) hro
  have ht:rs.take (i+1)=rs.take i++[r]:=ZW hr;have ln:=ZMR hN hro
  have ln2:(Ja (Qe N r)).length<=1000000000:=by have:=(ZDZ (Qe N r)).2.2;omega
  have hsn:=Zdx N (rs.take i) r
  have hnn:∀o,0<=Yn o (J1 N (rs.take i))/\Yn o (J1 N (rs.take i))<=100:=fun o=>by
   have h1:=ZPF N o (rs.take i) []
   have h2:=List.length_filter_le (fun r=>decide (o∈Ja (Qe N r))) (rs.take i)
   rw[List.length_take]at h2;unfold J1;rw[h1];simp only[Yn];omega
  generalize J1 N (rs.take i)=c0 at *
  generalize Ja (Qe N r)=v at *
  have hbx:X++(.map (J0 c0)::Jb (rs.take i))++[.arr 5 0 [r.av]]=X++(.map (J0 c0)::Jb (rs.take (i+1))):=by rw[ht,ZJ6];simp
  repeat'(first|refine QY (f:=Ro.av) Y Y q (fun _=>rfl) ?_|refine QF Y (p1 _) ?_|refine JG Y ?_|refine ZE ?_|refine ZD ?_|refine ZF Y ?_|refine Zr Y Y ?_|refine ZB Y ?_|refine ZC ?_|refine Ql Y Y Y ?_|(refine cm0 Y Y Y ?_ ?_<;>intro _<;>try omega)|refine ZS Y ?_|refine ZG Y ?_|refine Z0 Y Y Y ?_|refine J9 Y Y Y Y Y Y ?_|refine ZA Y Y Y (hNd _) ?_|refine ZI ?_|refine ZJ ?_)
  all_goals try first|contradiction|omega
  change Ru _ _ _ _ _ ⟨A,false,X++(.map (J0 c0)::Jb (rs.take i))++[.arr 5 0 [r.av]]⟩
  rw[hbx]
  refine Zt (α:=Nat) (fun j=>[(0,.ptr la (b+5) 0 0 0),(9,.map A.length X.length),(32,.lit (rs.map Ro.av)),(33,.int .i64 rs.length),(34,.int .i64 i),(47,.lit (v.map Z1)),(48,.int .i64 v.length),(49,.int .i64 j)]) (fun j=>⟨A,false,X++(.map (J0 (ZBI c0 (v.take j)))::Jb (rs.take (i+1)))⟩) (fun j=>j<=v.length) (fun j=>v.length-j) 0 Y Y (by omega) ?_
  intro j hj
  rcases Nat.lt_or_ge j v.length with hjl|hjg
  ·obtain⟨h,hh⟩:∃k,v[j]?=some k:=⟨v[j]'hjl,jE _⟩
   have qk:0<=((j:Nat):Int)/\v[((j:Nat):Int).toNat]?=some h:=⟨by omega,by rw[show ((j:Nat):Int).toNat=j by omega];exact hh⟩
   have ht2:v.take (j+1)=v.take j++[h]:=ZW hh
   have hg0:0<=Yn h (ZBI c0 (v.take j))/\Yn h (ZBI c0 (v.take j))<=2000000000:=by
    have h1:=ZJ2 h (v.take j) c0;have h2:=List.count_le_length (a:=h) (l:=v.take j)
    have h3:(v.take j).length<=v.length:=by rw[List.length_take];omega
    have h4:=hnn h;omega
   have hc:ZBI c0 (v.take (j+1))=ZGY h (ZBI c0 (v.take j)):=by rw[ht2,Zdq]
   generalize ZBI c0 (v.take j)=c at *
   have hlk:lookV ⟨A,false,X++(.map (J0 c)::Jb (rs.take (i+1)))⟩ 0 (.int .i64 0) false (.int .u64 h) (.map A.length X.length)=some (.int .i64 (Yn h c)):=ZkU (by simp only[St.get,if_true];rw[List.getElem?_append_right (Nat.le_refl _),Nat.sub_self];rfl) h
   have hput:=Zf9 h c
   generalize Yn h c=n at *
   repeat'(first|refine QY (f:=Z1) Y Y qk (fun _=>rfl) ?_|refine YZ Y Y hlk ?_|refine ZGb Y Y Y Y Y Y hput ?_|refine ZE ?_|refine ZD ?_|refine ZF Y ?_|refine ZB Y ?_|refine ZC ?_|refine QF Y Y ?_|(refine cm0 Y Y Y ?_ ?_<;>intro _<;>try omega)|refine ZS Y ?_|refine Zj Y Y (by omega) ?_|refine ZI ?_|refine ZJ ?_|refine Zz ?_|refine Z7 ?_)
   all_goals try omega
   refine⟨j+1,⟨rfl,?_⟩,by omega,by omega⟩
   rw[hc]
  ·obtain rfl:j=v.length:=by omega
   rw[List.take_length]
   repeat'(first|refine ZE ?_|refine ZD ?_|refine ZF Y ?_|refine ZB Y ?_|refine ZC ?_|(refine cm0 Y Y Y ?_ ?_<;>intro _<;>try omega)|refine ZG Y ?_|refine Zj Y Y (by omega) ?_|refine Zo ?_|refine Zc ?_|refine Zz ?_|refine Za Y ?_|refine Z7 ?_|refine Zk ?_)
   all_goals try omega
   refine⟨i+1,⟨rfl,?_⟩,by omega,by omega⟩
   rw[ht,hsn,<- ht]
 ·obtain rfl:i=rs.length:=by omega
  rw[List.take_length]
  repeat'(first|refine ZE ?_|refine ZD ?_|refine ZF Y ?_|refine ZB Y ?_|refine ZC ?_|(refine cm0 Y Y Y ?_ ?_<;>intro _<;>try omega)|refine ZG Y ?_|refine ZP ?_|refine Zo ?_|refine ZL ?_|refine Zc ?_|refine Za Y ?_|refine Zk ?_)
  all_goals try omega
  exact (YG (.inr Y) Y Y Y Y).trans Y
def atL(N:ZO)(n:Int)(rs:List Ro):List Nat:=Zcu (ZMS (fun m=>decide (n<=m)) (J1 N rs))
theorem ZJ8(N:ZO)(rs:List Ro):((J1 N rs).map Prod.fst).Nodup:=ZaW N rs [] (by simp)
theorem ZJe{N:ZO}(hN:GoodN N)(h6:Zh6 N){rs:List Ro}(hrs:∀r∈rs,RtOk N r):∀q∈J1 N rs,q.1<18446744073709551616:=fun q hq=>by
 have:=(ZPG N q.1 rs [] (by simp)).1 (List.mem_map.2 ⟨q,hq,rfl⟩)
 rcases this with h|⟨r,hr,h⟩
 ·simp at h
 ·exact ZoZ hN h6 (hrs r hr) h
theorem Zh9{N:ZO}(hN:GoodN N)(hK:∀l,Lv N l->l.length<=16384){rs:List Ro}(hrs:∀r∈rs,RtOk N r):(J1 N rs).length<=16384:=by
 have h1:=hK ((J1 N rs).map Prod.fst) ⟨ZJ8 N rs,fun o ho=>by
  rcases (ZPG N o rs [] (by simp)).1 ho with h|⟨r,hr,h⟩
  ·simp at h
  ·obtain⟨y,hy⟩:=ZSJ hN (hrs r hr) o (onceV_mem.1 h)
   rw[hy];simp⟩
 rwa [List.length_map]at h1
theorem Zlo{b:Nat}{N:ZO}(hN:GoodN N)(h6:Zh6 N)(hK:∀l,Lv N l->l.length<=16384)(hR:Rd st la (b+5) N){rs:List Ro}(hrs:∀r∈rs,RtOk N r)(hl:rs.length<=100):
 S TX JX [.ptr la (b+5) 0 0 0,.lit (rs.map Ro.av)] st=some (.tup [.lit ((atL N 2 rs).map Z1),.int .i64 0],st):=by
 refine QK (leX JX (.pf Yk) (leW JX (.pf Yk) (leV JX (.pf Yk) (le3 JX (.pf Yk) Y)))) (fun A hA=>?_)
 have hC:=up3X (Zln (A:=A) (L:=[]) hN (fun L=>hR.push hA (ro:=false) (L:=L)) hrs hl)
 have hg:St.get ⟨A,false,([]++Jb rs)++(.map (J0 (J1 N rs))::Jb rs)⟩ A.length (([]++Jb rs):List Blk).length=some (.map (J0 (J1 N rs))):=by
  simp only[St.get,if_true];rw[List.getElem?_append_right (Nat.le_refl _),Nat.sub_self];rfl
 have hL:=ZSK (n0:=2) (Nat.le_refl _) hg (ZJ8 N rs) (ZJe hN h6 hrs) (by have:=Zh9 hN hK hrs;omega)
 change _=some (AV.lit ((atL N 2 rs).map Z1),_) at hL
 generalize J1 N rs=c at *
 generalize ([]++Jb rs:List Blk)=X at *
 repeat'(first|refine ZE ?_|refine ZD ?_|refine ZF Y ?_|refine Zr Y Y ?_|refine ZB Y ?_|refine ZC ?_|(refine cm0 Y Y Y ?_ ?_<;>intro _<;>try omega)|refine ZG Y ?_|refine ZA Y Y Y (hC) ?_|refine ZA Y Y Y (hL) ?_|refine ZI ?_|refine ZP ?_|refine ZL ?_)
 all_goals try contradiction
 all_goals refine Zf hA (by simp) Y Y Y Y ?_
 all_goals rfl
end Go.Q15
namespace Go.QAbs
variable {w:AV}{e:Env}{f g:FuncId}{a z:Int}{A:List (Bool × List Blk)}{args caps:LV}{k:List Fr}{l:List Nat}{s s0:B8}{d i ix la lm mx n o ver:Nat}{v x:Opd}{O:Orc}{st:St}{Q:YD}
section
variable {O:Orc}{k:List Fr}{Q:YD}{e:Env}{A A0:List (Bool × List Blk)}{L L0 T:List Blk}{keep:List Nat}{is:List PI}{d:Nat}{ks:List (Nat × Nat)}{b0 bs:List Blk}
end
end Go.QAbs
namespace Go.Q15
open Go Go.QAbs
variable {w:AV}{e:Env}{f g:FuncId}{a z:Int}{A:List (Bool × List Blk)}{args caps:LV}{k:List Fr}{l:List Nat}{s s0:B8}{d i ix la lm mx n o ver:Nat}{v x:Opd}{O:Orc}{ro:Ro}{st:St}{t:Tr}{Q:YD}
end Go.Q15
