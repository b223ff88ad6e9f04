/- A part of the proof: RV, M18, PO, RW, RX, W9, SB, SC, RY, RZ, SD, SE, SF, SG, SI, SJ, SK, SL, SN, SO, SPa, SSa, SSb, SSc, PDa, PDb, SSd, SSe, SSf, SSg, SSh, SSi, SSj, SSk, SPb, SPc, SPd, SQa, SQb, SQc, SQd, SQe, SSl, SQf, SQg, SQh, SSm, SSn, ESa, ESb, ESc, ESd, ESe, STc, STd, ESg, PSj, PSl, RSa, RSb, RSc, PEa, CUa, W10, SKa, SKb, SKc, CUc, CUd, CUe, CUf, CUg, CUh. No condition. -/
import Derived.Test.YtcdebbidfgmieaaGreatRsT8
set_option linter.unusedVariables false
set_option linter.unusedSimpArgs false
set_option maxHeartbeats 16000000
set_option maxRecDepth 100000
namespace Go.Q15
open Go Go.QAbs
variable {w:AV}{e:Env}{f g:FuncId}{a z:Int}{A:List (Bool × List Blk)}{args caps:LV}{k:List Fr}{l:List Nat}{s s0:B8}{d i ix la lm mx n o ver:Nat}{v:Opd}{O:Orc}{ro x:Ro}{st:St}{t:Tr}{Q:YD}
theorem ZZ0(n g:Nat)(hn:n<=16384)(hg:1<=g/\g<=4294967295):AROk (JF n g):=by
 have hb:∀i,i<n->(JF n g).blk[i]?=some ((n:Int)-1-i):=fun i hi=>by simp[JF,hi]
 refine⟨by simp[JF],by simp[JF];exact hn,by simp[JF],by simp[JF],fun i hi=>⟨n-1-i,?_,?_,?_⟩,fun i j hi hj q=>?_,fun s hs=>⟨1,?_,by omega,?_⟩,?_,fun h x hx=>?_,?_,?_,?_⟩
 ·have hi':i<n:=hi
  rw[hb i hi'];congr 1
  show (n:Int)-1-i=((n-1-i:Nat):Int)
  omega
 ·have hi':i<n:=hi
  show n-1-i<(List.replicate n (0:Int)).length
  rw[List.length_replicate];omega
 ·have hi':i<n:=hi
  show (List.replicate n (0:Int))[n-1-i]?=some 0
  rw[List.getElem?_replicate,if_pos (by omega)]
 ·have hi':i<n:=hi
  have hj':j<n:=hj;rw[hb i hi',hb j hj']at q
  have:=Option.some.inj q
  omega
 ·have hs':s<n:=by simpa [JF] using hs
  simp[JF,hs']
 ·show ((1:Nat):Int)<=(g:Int);omega
 ·show (g:Int)<=_;omega
 ·simp[JF,lk]at hx
 ·simp[JF]
 ·simp[JF]
 ·simp[JF];omega
noncomputable def Zha(p:AR × List Ro)(s:B8):AR × List Ro:=((wrV (Qx s) p.1).1,p.2++[(wrV (Qx s) p.1).2.1])
noncomputable def XV(texts:List B8):AR × List Ro:=texts.foldl Zha (JF 1500 3,[])
theorem ZLh(l:List B8)(s:B8):XV (l++[s])=Zha (XV l) s:=by unfold XV;rw[List.foldl_append];rfl
def Rts(N:ZJ)(ros:List Ro)(ss:List B8):Prop:=ros.length=ss.length/\∀(i:Nat) (ro:Ro) (s:B8),ros[i]?=some ro->ss[i]?=some s->Rt N ro s
theorem Rts.ext{N M:ZJ}(hN:GoodN N)(hE:Ext N M){ros:List Ro}{ss:List B8}(h:Rts N ros ss):Rts M ros ss:=⟨h.1,fun i ro s h1 h2=>(h.2 i ro s h1 h2).ext hN hE⟩
theorem Rts.snoc{N:ZJ}{ros:List Ro}{ss:List B8}(h:Rts N ros ss)(g:Rt N ro s):Rts N (ros++[ro]) (ss++[s]):=by
 refine⟨by simp[h.1],fun i r t h1 h2=>?_⟩
 rcases Nat.lt_or_ge i ros.length with q|q
 ·rw[jL q]at h1
  rw[jL (by rw[<- h.1];exact q)]at h2
  exact h.2 i r t h1 h2
 ·rw[List.getElem?_append_right q]at h1
  rw[List.getElem?_append_right (by rw[<- h.1];exact q)]at h2
  rw[<- h.1]at h2
  match hk:i-ros.length with
  | 0=>rw[hk]at h1 h2;obtain rfl:=Option.some.inj h1;obtain rfl:=Option.some.inj h2;exact g
  | n+1=>rw[hk]at h1;simp at h1
structure LaidOk(texts:List B8)(p:AR × List Ro):Prop where
 ok:AROk p.1
 good:GoodN p.1.nodes
 rts:Rts p.1.nodes p.2 texts
 room:1500<=p.1.n+texts.flatten.length
theorem ZZ1{l:List B8}{p:AR × List Ro}(h:LaidOk l p)(hl:(l++[s]).flatten.length<=900):nw (Qx s)<=p.1.n/\LaidOk (l++[s]) (Zha p s):=by
 have hfl:(l++[s]).flatten.length=l.flatten.length+s.length:=by simp
 have hr:=h.room
 have hs:s.length<=65536:=by omega
 obtain⟨b1,b2,b3⟩:=ZAE h.good hs;have hw:=ZrX h.good b1;rw[b3]at hw
 have hn:nw (Qx s)<=p.1.n:=by omega
 obtain⟨w1,w2⟩:=ZhY (ZBy [] [] [] p.1) h.ok h.good b1 (by rw[b3];omega) hn
 rw[b2]at w2;refine⟨hn,w1.ok,w1.good,(h.rts.ext h.good w1.ext).snoc w2,?_⟩
 have:=w1.n
 show 1500<=(wrV (Qx s) p.1).1.n+_
 omega
theorem ZZ2(texts:List B8)(hl:texts.flatten.length<=900):∀i,i<=texts.length->LaidOk (texts.take i) (XV (texts.take i)):=by
 intro i
 induction i with
 | zero=>intro _;exact⟨ZZ0 1500 3 (by omega) (by omega),ZOh,⟨rfl,fun i ro s h=>by simp[XV]at h⟩,by simp[XV,JF]⟩
 | succ i ih =>
  intro hi
  obtain⟨s,hs⟩:∃s,texts[i]?=some s:=⟨texts[i]'(by omega),by simp[show i<texts.length by omega]⟩
  rw[ZZ hs,ZLh]
  refine (ZZ1 (ih (by omega)) ?_).2
  rw[<- ZZ hs]
  have:=ZVs texts (i+1)
  omega
def ZEK(l:List Ro):List Blk:=l.map fun r=>Blk.arr 5 0 [r.av]
theorem Zqo(texts:List B8)(hl:texts.flatten.length<=900)(h4:texts.length<=4)(A:List (Bool × List Blk))(L0:List Blk):
 S Tb Yg [.lit (texts.map .str)] ⟨A,false,L0⟩=some (.tup [.ptr A.length (L0.length+5) 0 0 0,.ref A.length (L0.length+6) texts.length 0 texts.length,.bool true],⟨A,false,L0++(arB A.length L0.length (XV texts).1++(.arr 5 texts.length ((XV texts).2.map Ro.av)::ZEK (XV texts).2))⟩):=by
 refine Xv Y ?_
 have hN:=Zjs 1500 3 (by omega) (by omega) A L0
 repeat'(first|refine Zg9 ?_|refine ZE ?_|refine ZD ?_|refine ZG Y ?_|refine QK Y ?_|refine Zr Y Y Y Y ?_|refine Zw Y Y ?_|refine ZB Y ?_|refine ZC ?_|(refine cm0 Y Y Y ?_ ?_<;>intro _<;>try omega)|refine ZH Y ?_|refine JN Y Y Y Y ?_|refine ZA Y Y Y (hN) ?_|refine ZI ?_|refine ZL ?_)
 all_goals try contradiction
 have e7:(L0++[(JF 1500 3).b0,(JF 1500 3).b1,(JF 1500 3).b2,(JF 1500 3).b3 A.length L0.length,(JF 1500 3).b4,(JF 1500 3).b5 A.length L0.length]).length=L0.length+6:=by simp
 rw[e7]
 refine Zy (α:=Nat) (fun i=>[(0,.lit (texts.map .str)),(5,.ptr A.length (L0.length+5) 0 0 0),(7,.ref A.length (L0.length+6) i 0 i),(8,.int .i64 i)])
  (fun i=>⟨A,false,L0++(arB A.length L0.length (XV (texts.take i)).1++(.arr 5 i ((XV (texts.take i)).2.map Ro.av)::ZEK (XV (texts.take i)).2))⟩) (fun i=>i<=texts.length) (fun i=>texts.length-i) 0 rfl ?_ (by simp) ?_
 ·rw[List.append_assoc];rfl
 rintro i hi
 have hok:=ZZ2 texts hl i hi
 rcases Nat.lt_or_ge i texts.length with hlt|hge
 ·obtain⟨s,hs⟩:∃s,texts[i]?=some s:=⟨texts[i]'(by omega),by simp[show i<texts.length by omega]⟩
  have hfl:=ZVs texts (i+1)
  have htk:(texts.take i++[s]).flatten.length<=900:=by rw[<- ZZ hs];omega
  obtain⟨hn,hok2⟩:=ZZ1 hok htk
  have h1:=Zj8 (ZBy A L0 (.arr 5 i ((XV (texts.take i)).2.map Ro.av)::ZEK (XV (texts.take i)).2) (XV (texts.take i)).1) hok.ok hok.good s (by simp at htk;omega) hn
  rw[ZOv]at h1
  have hV:XV (texts.take (i+1))=Zha (XV (texts.take i)) s:=by rw[ZZ hs,ZLh]
  unfold Zha at hV;have hri:=hok.rts.1;rw[List.length_take,Nat.min_eq_left hi]at hri
  generalize XV (texts.take i)=V at *
  generalize wrV (Qx s) V.1=W at *
  have hx:0<=((i:Nat):Int)/\texts[((i:Nat):Int).toNat]?=some s:=⟨by omega,by rw[show ((i:Nat):Int).toNat=i by omega];exact hs⟩
  obtain⟨L1,hL1⟩:∃L1,L1=L0++(arB A.length L0.length W.1++Blk.arr 5 i (List.map Ro.av V.2)::ZEK V.2):=⟨_,rfl⟩;rw[<- hL1]at h1
  have g6:L1[L0.length+6]?=some (.arr 5 i (V.2.map Ro.av)):=by rw[hL1,Qj];rfl
  repeat'(first|refine QX Y Y hx (fun _=>rfl) ?_|refine ZE ?_|refine ZD ?_|refine ZG Y ?_|refine Zw Y Y ?_|refine ZB Y ?_|refine ZC ?_|refine QH Y ?_|refine Qv Y Y Y ?_|refine QA Y Y ?_|(refine cm0 Y Y Y ?_ ?_<;>intro _<;>try omega)|refine ZQ Y ?_|refine ZH Y ?_|refine Z1 Y Y Y ?_|refine YQ Y Y Y Y Y Y ?_|refine QM Y Y Y Y ?_|refine ZA Y Y Y (h1) ?_|refine ZI ?_|refine ZL ?_)
  all_goals try first|contradiction|omega
  have h6l:L0.length+6<L1.length:=(List.getElem?_eq_some_iff.1 g6).1
  refine ZAa (es:=V.2.map Ro.av) (ys:=[W.2.1.av]) Y Y (ZAc g6) (by rw[List.length_map];omega) rfl rfl (by rw[List.length_map,List.length_singleton];omega) (by decide) ?_
  repeat'(first|refine ZD ?_|refine ZG Y ?_|refine ZB Y ?_|refine ZC ?_|refine Zh Y Y (by omega) ?_|refine Z0 ?_|refine Z8 ?_)
  refine⟨i+1,⟨rfl,?_⟩,by omega,by omega⟩
  simp only[hV];rw[hL1,List.append_assoc,ZOf]
  have e8:((V.2++[W.2.1]).map Ro.av)=V.2.map Ro.av++[W.2.1.av]:=by rw[List.map_append];rfl
  have e9:ZEK (V.2++[W.2.1])=ZEK V.2++[.arr 5 0 [W.2.1.av]]:=by unfold ZEK;rw[List.map_append];rfl
  rw[e8,e9];rfl
 ·obtain rfl:i=texts.length:=by omega
  rw[List.take_length]
  repeat'(first|refine ZE ?_|refine ZD ?_|refine ZG Y ?_|refine ZB Y ?_|refine ZC ?_|refine QH Y ?_|(refine cm0 Y Y Y ?_ ?_<;>intro _<;>try omega)|refine ZH Y ?_|refine ZP ?_|refine Zq ?_|refine ZO ?_|refine Zb ?_|refine Za Y ?_|refine Zn ?_)
  refine (J9 (.inr Y) Y Y Y Y).trans ?_;rfl
def JJ(x n:Int):Int:=(x % 18446744073709551616) % (n+1)
theorem Qr{x n:Int}(h:0<=n):0<=JJ x n/\JJ x n<=n:=by
 unfold JJ
 have:=Int.emod_nonneg (x % 18446744073709551616) (show n+1≠0 by omega)
 have:=Int.emod_lt_of_pos (x % 18446744073709551616) (show 0<n+1 by omega)
 omega
theorem Zp5(x:Int):IntKind.u64.wrap x=x % 18446744073709551616:=by
 have e1:IntKind.u64.signed=false:=rfl;have e2:IntKind.u64.bits=64:=rfl;simp only[IntKind.wrap,e1,e2,Bool.false_and,if_false,jB];rfl
theorem ZB9(k:Option (List Tr)):(Tr.ownO k).getD []=(k.getD []).map Tr.own:=by
 cases k with
 | none=>rfl
 | some l=>simp[Tr.ownO,Tr.ownL_map]
theorem ZnC(t:Tr):t.own.h=t.h:=by cases t;rfl
theorem ZCA(t:Tr):t.own.bytes=t.bytes:=by
 induction t using Tr.ind with
 | step o h m s k ih =>
  rw[Tr.own,Tr.bytes,Tr.bytes,Tr.bytesO_getD,Tr.bytesO_getD,ZB9];generalize k.getD []=l at ih
  congr 1
  induction l with
  | nil=>rfl
  | cons a l ih2=>rw[jC,Tr.bytesL,Tr.bytesL,ih a (by simp),ih2 (fun t ht=>ih t (by simp[ht]))]
theorem Zpc(N:ZJ)(t:Tr):t.own.txt N=t.txt N:=by
 induction t using Tr.ind with
 | step o h m s k ih =>
  rw[Tr.own,Tr.txt,Tr.txt,Tr.txtO_getD,Tr.txtO_getD,ZB9];generalize k.getD []=l at ih
  congr 1
  induction l with
  | nil=>rfl
  | cons a l ih2=>rw[jC,Tr.txtL,Tr.txtL,ih a (by simp),ih2 (fun t ht=>ih t (by simp[ht]))]
theorem Zpd{N:ZJ}(hv:Val N t):Val N t.own:=by
 induction hv with
 | kept h0 hx hok hh hm hk =>
  rw[Tr.own]
  exact .kept h0 hx hok hh hm (by rw[ZB9,hk];rfl)
 | leaf h1 h2 hk =>
  rw[Tr.own]
  exact .leaf h1 h2 (by rw[ZB9,hk];rfl)
 | inner hh h2 h4 hl hb hv ih =>
  rename_i h l
  rw[Tr.own,Tr.ownO,Tr.ownL_map]
  refine .inner hh (by rw[List.length_map];exact h2) (by rw[List.length_map];exact h4) ?_ ?_ ?_
  ·intro t ht
   obtain⟨u,hu,rfl⟩:=List.mem_map.1 ht;rw[ZnC];exact hl u hu
  ·intro t ht q
   obtain⟨u,hu,rfl⟩:=List.mem_map.1 ht;rw[ZCA];exact hb u hu q
  ·intro t ht
   obtain⟨u,hu,rfl⟩:=List.mem_map.1 ht;exact ih u hu
theorem ZnD{N:ZJ}(h:VE N t):VE N t.own:=by
 rcases h with h|h
 ·obtain⟨o,h',m,s,k⟩:=t
  obtain⟨h1,h2,h3,h4,h5⟩:=h
  exact .inl ⟨h1,h2,h3,h4,by show (Tr.ownO k).getD []=[];rw[ZB9];simp only[Tr.ks]at h5;rw[h5];rfl⟩
 ·exact .inr (Zpd h)
theorem Zfe(x n:Int)(h0:0<=n)(h1:n<4611686018427387904)(st:St):S Tb JO [.int .i64 x,.int .i64 n] st=some (.int .i64 (JJ x n),st):=by
 have hp:=Qr (x:=x) h0
 have hw:IntKind.u64.wrap (n+1)=n+1:=by rw[Zp5];omega
 have hx:=Int.emod_nonneg x (show (18446744073709551616:Int)≠0 by decide)
 have hrem:ZD7 .rem (.int .u64 (IntKind.u64.wrap x)) (.int .u64 (n+1))=some (.int .u64 (JJ x n)):=by
  rw[Zp5]
  show (if n+1=0 then none else some (AV.int .u64 ((x % 18446744073709551616).tmod (n+1))))=_
  rw[if_neg (by omega),Int.tmod_eq_emod_of_nonneg hx];rfl
 refine QN Y (fun A hA=>?_)
 repeat'(first|refine ZE ?_|refine ZD ?_|refine ZG Y ?_|refine ZB Y ?_|refine ZC ?_)
 refine Zov Y ?_
 repeat'(first|refine ZG Y ?_|refine Zh Y Y (by omega) ?_)
 refine ZL8 Y hw ?_;refine ZWc Y Y hrem ?_
 refine ZL8 Y (ZPR (by omega) (by omega)) ?_
 repeat'(first|refine ZG Y ?_|refine ZB Y ?_|refine ZC ?_|refine ZP ?_|refine ZO ?_)
 refine Zj hA (by simp) Y Y Y Y ?_
 rfl
structure Ed where
 what:Nat
 n:Int
 at_:Int
 len:Int
 text:B8
def Ed.av(y:Ed):AV:=.agg [.int .u8 y.what,.int .i64 y.n,.int .i64 y.at_,.int .i64 y.len,.str y.text]
def ZdL(ros:List Ro)(x:Int):Option Ro:=ros[(JJ x ((ros.length:Int)-1)).toNat]?
noncomputable def ZDL(N:ZJ)(ros:List Ro)(y:Ed):Tr :=
 match ZdL ros y.n with
 | none=>Qx y.text
 | some r=>(ZGY N (Yx r) (JJ y.at_ r.m.b) (JJ y.len (r.m.b-JJ y.at_ r.m.b)) y.text).own
theorem ZnE{ros:List Ro}{x:Int}(h:ros≠[]):∃r,ZdL ros x=some r/\r∈ros/\(JJ x ((ros.length:Int)-1)).toNat<ros.length:=by
 have hl:0<ros.length:=List.length_pos_iff.2 h
 have:=Qr (x:=x) (n:=(ros.length:Int)-1) (by omega)
 have hlt:(JJ x ((ros.length:Int)-1)).toNat<ros.length:=by omega
 exact⟨ros[(JJ x ((ros.length:Int)-1)).toNat]'hlt,by unfold ZdL;rw[jE hlt],List.getElem_mem _,hlt⟩
theorem ZOw(r:Ro):JU r.av true 0 5=some r.av:=by cases r;rfl
theorem YH{keep:List Nat}{is:List QAbs.PI}{α:Type}{f:α->AV}{x:Opd}{l:List α}(hx:Zc e x=some (.lit (l.map f)))(h:Is O is keep k Q ((d,.int .i64 l.length)::e) st):Is O (⟨some d,none,false,.len 1 x⟩::is) keep k Q e st:=by
 refine Zdw hx ?_;rw[List.length_map];exact h
theorem Zj9{lv:Nat}{n m:Int}:ZX (Ze ([]++[.ptr lv ix 0 0 0,t.av,.int .i64 n,.int .i64 m,.str s]++[]))=some [.ptr lv ix 0 0 0,t.av,.int .i64 n,.int .i64 m,.str s]:=by
 simp only[lE,lN,lC,Ze,ZW,ZX];rfl
structure PlanOk(N:ZJ)(ros:List Ro):Prop where
 rt:∀r∈ros,RtOk N r/\(Yx r).bytes=r.m.b/\0<=r.m.b/\r.m.b<=60000
 len:ros.length<65536
theorem Rts.plan{N:ZJ}(hN:GoodN N){ros:List Ro}{ss:List B8}(h:Rts N ros ss)(hl:ros.length<65536)(hs:∀s∈ss,s.length<=60000):PlanOk N ros:=by
 refine⟨fun r hr=>?_,hl⟩
 obtain⟨i,hi,rfl⟩:=List.getElem_of_mem hr
 have hi2:i<ss.length:=by rw[<- h.1];exact hi
 have g:=h.2 i _ _ (jE hi) (jE hi2);obtain⟨b1,b2⟩:=g.b hN
 have:=hs _ (List.getElem_mem hi2)
 exact⟨g.rt,by rw[b1,b2],by omega,by omega⟩
theorem RtOk.keep{N:ZJ}{r:Ro}(h:RtOk N r):VE N (Yx r):=(Rt.keep ⟨h,rfl⟩).1
theorem ZnF{N:ZJ}(hN:GoodN N){ros:List Ro}(h:PlanOk N ros){y:Ed}(hy:y.text.length<=200):VE N (ZDL N ros y)/\(ZDL N ros y).bytes<=60200:=by
 unfold ZDL
 match hq:ZdL ros y.n with
 | none =>
  obtain⟨b1,b2,b3⟩:=ZAE hN (s:=y.text) (by omega)
  exact⟨b1,by show (Qx y.text).bytes<=_;omega⟩
 | some r =>
  obtain⟨h1,h2,h3,h4⟩:=h.rt r (jM (show ros[_]?=some r from hq))
  have p1:=Qr (x:=y.at_) h3
  have p2:=Qr (x:=y.len) (n:=r.m.b-JJ y.at_ r.m.b) (by omega)
  have:=ZOg hN (s:=y.text) h1.keep (a:=JJ y.at_ r.m.b) (n:=JJ y.len (r.m.b-JJ y.at_ r.m.b)) p1.1 p2.1 (by omega) (by omega) (by omega)
  refine⟨ZnD this.ve,?_⟩
  show (Tr.own _).bytes<=_
  rw[ZCA,this.bytes];omega
theorem Zpe{b:Nat}{N:ZJ}(hN:GoodN N)(hR:Rd st la (b+5) N){kx lv:Nat}{ros:List Ro}(hg:st.get lv kx=some (.arr 5 ver (ros.map Ro.av)))(hP:PlanOk N ros){ys:List Ed}(hyl:ys.length<65536)(hy:∀y∈ys,y.text.length<=200):
 S Tb Xa [.ptr la (b+5) 0 0 0,.ref lv kx ver 0 ros.length,.lit (ys.map Ed.av)] st=some (.tup [.lit ((ys.map (ZDL N ros)).map Tr.av),.bool true],st):=by
 refine QN Y (fun A hA=>?_)
 have hr:=fun L=>hR.push hA (ro:=false) (L:=L)
 have gr:=fun L=>ZS hA (ro:=false) (L:=L) hg
 have hwi:∀L,wIs 5 ver (St.get ⟨A,false,L⟩ lv kx)=true:=fun L=>by rw[gr];simp[wIs]
 have hpl:=hP.len
 repeat'(first|refine ZE ?_|refine ZD ?_|refine ZG Y ?_|refine ZB Y ?_|refine ZC ?_|refine ZAK Y ?_|refine ZL ?_)
 refine Zy (α:=Nat × List Blk) (fun q=>[(0,.ptr la (b+5) 0 0 0),(1,.ref lv kx ver 0 ros.length),(2,.lit (ys.map Ed.av)),(8,.ref A.length 0 q.1 0 q.1),(9,.int .i64 q.1)])
  (fun q=>⟨A,false,.arr 7 q.1 (((ys.take q.1).map (ZDL N ros)).map Tr.av)::q.2⟩) (fun q=>q.1<=ys.length) (fun q=>ys.length-q.1) (0,[]) rfl rfl (Nat.zero_le _) ?_
 rintro⟨i,G⟩ hi
 simp only at hi ⊢
 rcases Nat.lt_or_ge i ys.length with hlt|hge
 ·obtain⟨y,hyi⟩:∃y,ys[i]?=some y:=⟨ys[i]'(by omega),by simp[hlt]⟩
  have hy1:=hy y (jM hyi)
  have hx:0<=((i:Nat):Int)/\ys[((i:Nat):Int).toNat]?=some y:=⟨by omega,by rw[show ((i:Nat):Int).toNat=i by omega];exact hyi⟩
  have hes:(((ys.take i).map (ZDL N ros)).map Tr.av).length=i:=by simp;omega
  have hfin:∀c,ZDL N ros y=c->((ys.take (i+1)).map (ZDL N ros)).map Tr.av=((ys.take i).map (ZDL N ros)).map Tr.av++[c.av]:=fun c hc=>by
   rw[ZZ hyi,List.map_append,List.map_append,<- hc];rfl
  generalize hES:((ys.take i).map (ZDL N ros)).map Tr.av=es at *
  have e0:(⟨A,false,.arr 7 i es::G⟩:St)=⟨A,false,(.arr 7 i es::G)++[]⟩:=by rw[lN]
  rw[e0]
  by_cases hros:ros=[]
  ·have hc:=hfin (Qx y.text) (by unfold ZDL;rw[show ZdL ros y.n=none by subst hros;rfl])
   have h0:(ros.length:Int)=0:=by rw[hros];rfl
   have hBu:=fun st=>ZfR hN y.text (by omega) st
   generalize Qx y.text=c at *
   repeat'(first|refine YH Y ?_|refine Jp Y ?_|refine QX Y Y hx (fun _=>rfl) ?_|refine YO Y Y Y Y Y ?_|refine Xb Y Y Y (Zo _) ?_|refine ZDK Y Y Y Y (QQ _ _ _) (Qw _ _) Y ?_|refine ZB5 Y ?_|refine ZE ?_|refine ZD ?_|refine ZG Y ?_|refine ZV Y Y ?_|refine Zw Y Y ?_|refine ZB Y ?_|refine ZC ?_|refine QA Y Y ?_|(refine cm0 Y Y Y ?_ ?_<;>intro _<;>try omega)|(refine cm0 Y Y Y ?_ ?_<;>intro _<;>try omega)|(refine cm0 Y Y Y ?_ ?_<;>intro _<;>try omega)|refine ZQ Y ?_|refine ZH Y ?_|refine ZA Y Y (by first|rfl|(simp only[lE,lN,lC,Ze,ZW,ZX];first|done|rfl)) (hBu _) ?_|refine ZI ?_|refine ZL ?_)
   all_goals try first|contradiction|omega
   refine ZAa (es:=es) (ys:=[c].map Tr.av) Y Y Y hes.symm (Yp _) (ZIs _ _ _) (by rw[hes,List.length_map,List.length_singleton];omega) (by decide) ?_
   repeat'(first|refine ZD ?_|refine ZG Y ?_|refine ZB Y ?_|refine ZC ?_|refine Zh Y Y (by omega) ?_|refine Zq ?_|refine Zb ?_|refine Za Y ?_|refine Z8 ?_)
   refine⟨(i+1,G++[.arr 7 0 [c.av]]),⟨rfl,?_⟩,by simp only;omega,by simp only;omega⟩
   simp only[hc];rfl
  ·obtain⟨r,hr1,hr2,hr3⟩:=ZnE (x:=y.n) hros
   have hc:=hfin (ZGY N (Yx r) (JJ y.at_ r.m.b) (JJ y.len (r.m.b-JJ y.at_ r.m.b)) y.text).own (by unfold ZDL;rw[hr1])
   obtain⟨h1,h2,h3,h4⟩:=hP.rt r hr2;have hl0:0<ros.length:=List.length_pos_iff.2 hros
   have pn:=Qr (x:=y.n) (n:=(ros.length:Int)-1) (by omega)
   have p1:=Qr (x:=y.at_) h3
   have p2:=Qr (x:=y.len) (n:=r.m.b-JJ y.at_ r.m.b) (by omega)
   have hN1:=fun st=>Zfe y.n ((ros.length:Int)-1) (by omega) (by omega) st
   have hN2:=fun st=>Zfe y.at_ r.m.b (by omega) (by omega) st
   have hN3:=fun st=>Zfe y.len (r.m.b-JJ y.at_ r.m.b) (by omega) (by omega) st
   have hK:=fun L=>ZVn (hr L) h1
   have hRe:=fun L=>Zc9 hN (hr L) (s:=y.text) h1.keep (a:=JJ y.at_ r.m.b) (n:=JJ y.len (r.m.b-JJ y.at_ r.m.b)) p1.1 p2.1 (by omega) (by omega) (by omega)
   have gr2:(ros.map Ro.av)[0+(JJ y.n ((ros.length:Int)-1)).toNat]?=some r.av:=by
    rw[Nat.zero_add,jG,show ros[(JJ y.n ((ros.length:Int)-1)).toNat]?=some r from hr1];rfl
   generalize (ZGY N (Yx r) (JJ y.at_ r.m.b) (JJ y.len (r.m.b-JJ y.at_ r.m.b)) y.text).own=c at *
   generalize Yx r=kt at *
   repeat'(first|refine YH Y ?_|refine Jp Y ?_|refine QX Y Y hx (fun _=>rfl) ?_|refine ZBT Y Y (by omega) (hwi _) ?_|refine QB Y (gr _) gr2 (ZOw _) ?_|refine YO Y Y Y Y Y ?_|refine Xb Y Y Y Y ?_|refine Xb Y Y Y (Zo _) ?_|refine ZDK Y Y Y Y (QQ _ _ _) (Qw _ _) Y ?_|refine ZDK Y Y Y Y Y Y Y ?_|refine ZB5 Y ?_|refine ZE ?_|refine ZD ?_|refine ZG Y ?_|refine ZV Y Y ?_|refine Zw Y Y ?_|refine ZB Y ?_|refine ZC ?_|refine QA Y Y ?_|(refine cm0 Y Y Y ?_ ?_<;>intro _<;>try omega)|(refine cm0 Y Y Y ?_ ?_<;>intro _<;>try omega)|(refine cm0 Y Y Y ?_ ?_<;>intro _<;>try omega)|refine ZQ Y ?_|refine ZH Y ?_|refine Yc Y Y (by omega) ?_|refine ZA Y Y (by first|rfl|(simp only[lE,lN,lC,Ze,ZW,ZX];first|done|rfl)) (hN1 _) ?_|refine ZA Y Y (by first|rfl|(simp only[lE,lN,lC,Ze,ZW,ZX];first|done|rfl)) (hN2 _) ?_|refine JX Y Y Y (hN3 _) ?_|refine ZA Y Y (by first|rfl|(simp only[lE,lN,lC,Ze,ZW,ZX];first|done|rfl)) (hK _) ?_|refine ZA Y Y Zj9 (hRe _) ?_|refine ZI ?_|refine ZL ?_)
   all_goals try first|contradiction|omega
   refine ZAa (es:=es) (ys:=[c].map Tr.av) Y Y Y hes.symm (Yp _) (ZIs _ _ _) (by rw[hes,List.length_map,List.length_singleton];omega) (by decide) ?_
   repeat'(first|refine ZD ?_|refine ZG Y ?_|refine ZB Y ?_|refine ZC ?_|refine Zh Y Y (by omega) ?_|refine Z0 ?_|refine Z8 ?_)
   refine⟨(i+1,G++[.arr 5 0 [r.av],.arr 7 0 [c.av]]),⟨rfl,?_⟩,by simp only;omega,by simp only;omega⟩
   simp only[hc];rfl
 ·obtain rfl:i=ys.length:=by omega
  rw[List.take_length]
  repeat'(first|refine YH Y ?_|refine ZE ?_|refine ZD ?_|refine ZG Y ?_|refine ZB Y ?_|refine ZC ?_|(refine cm0 Y Y Y ?_ ?_<;>intro _<;>try omega)|refine ZH Y ?_|refine ZP ?_|refine Zq ?_|refine ZO ?_|refine Zb ?_|refine Za Y ?_|refine Zn ?_)
  all_goals try omega
  exact ZEU hA (.inr Y) Y Y (by simp) (fun v hv=>by obtain⟨x,_,rfl⟩:=List.mem_map.1 hv;exact Zim 2 x) Y Y
def ZE3:Nat->List B8->Nat
 | n,[]=>n
 | n,t::ts=>if n<=900 then ZE3 (n+min t.length 1000) ts else n
def ZSn(l:List B8):Prop:=4<l.length\/900<ZE3 0 l
instance (l:List B8):Decidable (ZSn l):=by unfold ZSn;infer_instance
theorem ZOx:∀(l:List B8) (n:Nat),n<=ZE3 n l
 | [],n=>by simp[ZE3]
 | t::ts,n=>by
  rw[ZE3]
  by_cases h:n<=900
  ·rw[if_pos h];have:=ZOx ts (n+min t.length 1000);omega
  ·rw[if_neg h];exact Nat.le_refl _
theorem ZdM:∀(l:List B8) (n:Nat),ZE3 n l<=900->n+(l.map List.length).sum<=900
 | [],n,h=>by simpa [ZE3] using h
 | t::ts,n,h=>by
  rw[ZE3]at h
  by_cases hn:n<=900
  ·rw[if_pos hn]at h
   have h1:=ZOx ts (n+min t.length 1000);have h2:=ZdM ts _ h;rw[jC,List.sum_cons];omega
  ·rw[if_neg hn]at h;omega
theorem ZdN{α:Type}{l:List α}{a:α}(h:l[i]?=some a):l.drop i=a::l.drop (i+1):=by
 obtain⟨h1,h2⟩:=List.getElem?_eq_some_iff.1 h;subst h2;exact List.drop_eq_getElem_cons h1
theorem Zqp(l:List B8)(hb:l.length<9223372036854775808)(hs:∀s∈l,s.length<9223372036854775808)(st:St):S Tb Xw [.lit (l.map .str)] st=some (.bool (decide (ZSn l)),st):=by
 refine QN Y (fun A hA=>?_)
 repeat'(first|refine ZE ?_|refine ZD ?_|refine ZG Y ?_|refine ZB Y ?_|refine ZC ?_|refine ZL ?_)
 refine Zy (α:=Nat × Nat) (fun p=>[(0,.lit (l.map .str)),(3,.int .i64 p.2),(4,.int .i64 p.1)]) (fun p=>⟨A,false,[]⟩) (fun p=>p.1<=l.length/\p.2<=1900/\ZE3 p.2 (l.drop p.1)=ZE3 0 l) (fun p=>l.length-p.1) (0,0) Y Y ⟨Nat.zero_le _,Nat.zero_le _,rfl⟩ ?_
 rintro⟨i,n⟩ ⟨h1,h2,h3⟩
 simp only at h1 h2 h3 ⊢
 repeat'(first|refine ZE ?_|refine ZD ?_|refine ZG Y ?_|refine QK Y ?_|refine JZ Y Y ?_|refine Zr Y Y Y Y ?_|refine ZB Y ?_|refine ZC ?_|refine YK Y ?_|refine QH Y ?_|refine QA Y Y ?_|refine YE Y Y (by omega) (fun _=>rfl) (fun _ _=>?_)|(refine cm0 Y Y Y ?_ ?_<;>intro _<;>try omega)|refine ZQ Y ?_|refine ZH Y ?_|refine Zdv Y Y ?_|refine ZI ?_|refine ZP ?_|refine Zq ?_|refine ZL ?_|refine ZO ?_|refine Zb ?_|refine Za Y ?_|refine Zn ?_)
 ·rename_i hlt hn x hx
  have hx':l[i]?=some x:=by rw[show i=((i:Nat):Int).toNat by omega];exact hx
  have hxl:=hs x (jM hx')
  have e1:(if false=true then max (x.length:Int) 1000 else min (x.length:Int) 1000)=((min x.length 1000:Nat):Int):=by
   simp only[jB,if_false];omega
  rw[e1]
  refine Zh Y Y (by omega) ?_
  rw[show (n:Int)+((min x.length 1000:Nat):Int)=((n+min x.length 1000:Nat):Int) by omega]
  repeat'(first|refine ZD ?_|refine ZG Y ?_|refine ZB Y ?_|refine ZC ?_|refine Zh Y Y (by omega) ?_|refine Z0 ?_|refine Z8 ?_)
  refine⟨(i+1,n+min x.length 1000),⟨rfl,rfl⟩,⟨by simp only;omega,by simp only;omega,?_⟩,by simp only;omega⟩
  rw[<- h3,ZdN hx',ZE3,if_pos (by omega)]
 ·refine ZA5 hA (by simp) Y Y ?_
  exact (decide_eq_true (.inl (by omega))).symm
 ·refine ZA5 hA (by simp) Y Y ?_
  refine (decide_eq_true (.inr ?_)).symm
  have:=ZOx (l.drop i) n
  omega
 ·refine ZA5 hA (by simp) Y Y ?_
  exact (decide_eq_true (.inl (by omega))).symm
 ·refine ZA5 hA (by simp) Y Y ?_
  refine (decide_eq_true (.inr ?_)).symm
  have:=ZOx (l.drop i) n
  omega
 ·refine ZA5 hA (by simp) Y Y ?_
  refine (decide_eq_false ?_).symm
  have:l.drop i=[]:=List.drop_eq_nil_of_le (by omega)
  rw[this,ZE3]at h3
  rintro (h|h)<;>omega
def ZZ3(l:List Ed):Prop:=(∃s∈l.take 100,200<s.text.length)\/60<l.length
open Classical in
noncomputable instance (l:List Ed):Decidable (ZZ3 l):=Classical.propDecidable _
theorem ZnG(l:List Ed)(hb:l.length<9223372036854775808)(hs:∀s∈l,s.text.length<9223372036854775808)(st:St):S Tb Xx [.lit (l.map Ed.av)] st=some (.bool (decide (ZZ3 l)),st):=by
 refine QN Y (fun A hA=>?_)
 repeat'(first|refine ZE ?_|refine ZD ?_|refine ZG Y ?_|refine ZB Y ?_|refine ZC ?_|refine ZL ?_)
 refine Zy (α:=Nat) (fun i=>[(0,.lit (l.map Ed.av)),(3,.int .i64 i)]) (fun p=>⟨A,false,[]⟩) (fun i=>i<=l.length/\i<=100/\∀j s,j<i->l[j]?=some s->s.text.length<=200) (fun i=>l.length-i) 0 Y Y ⟨Nat.zero_le _,Nat.zero_le _,fun j s h=>by omega⟩ ?_
 rintro i ⟨h1,h2,h3⟩
 have key:∀ {j:Nat} {s:Ed},(l.length:Int)<=i\/100<=(i:Int)->s∈l.take 100->s.text.length<=200:=by
  intro j s hi hm;obtain⟨j,hj⟩:=List.mem_iff_getElem?.1 hm;have hj1:=(List.getElem?_eq_some_iff.1 hj).1;rw[List.length_take]at hj1
  rw[List.getElem?_take,if_pos (by omega)]at hj
  exact h3 j s (by omega) hj
 repeat'(first|refine ZE ?_|refine ZD ?_|refine ZG Y ?_|refine ZV Y Y ?_|refine QK Y ?_|refine JZ Y Y ?_|refine Zr Y Y Y Y ?_|refine ZB Y ?_|refine ZC ?_|refine YK Y ?_|refine QH Y ?_|refine QA Y Y ?_|refine YE Y Y (by omega) (fun _=>rfl) (fun _ _=>?_)|(refine cm0 Y Y Y ?_ ?_<;>intro _<;>try omega)|refine ZQ Y ?_|refine ZH Y ?_|refine Zh Y Y (by omega) ?_|refine ZI ?_|refine ZP ?_|refine Zq ?_|refine ZL ?_|refine ZO ?_|refine Zd ?_|refine Zb ?_|refine Z0 ?_|refine Qu ?_|refine Za Y ?_|refine Z8 ?_|refine ZKV ?_|refine Zn ?_)
 ·rename_i hlt hn s hs' hbig
  have hs1:l[i]?=some s:=by rw[show i=((i:Nat):Int).toNat by omega];exact hs'
  refine ZA5 hA (by simp) Y Y ?_
  refine (decide_eq_true (.inl ⟨s,?_,by omega⟩)).symm
  refine List.mem_iff_getElem?.2 ⟨i,?_⟩
  rw[List.getElem?_take,if_pos (by omega)];exact hs1
 ·rename_i hlt hn s hs' hbig
  have hs1:l[i]?=some s:=by rw[show i=((i:Nat):Int).toNat by omega];exact hs'
  refine⟨i+1,⟨rfl,rfl⟩,⟨by omega,by omega,fun j s2 hj h=>?_⟩,by omega⟩
  rcases Nat.lt_or_ge j i with q|q
  ·exact h3 j s2 q h
  ·obtain rfl:j=i:=by omega
   rw[hs1]at h
   have:=Option.some.inj h
   subst this;omega
 ·refine ZA5 hA (by simp) Y Y ?_
  exact (decide_eq_true (.inr (by omega))).symm
 ·refine ZA5 hA (by simp) Y Y ?_
  exact (decide_eq_true (.inr (by omega))).symm
 ·refine ZA5 hA (by simp) Y Y ?_
  refine (decide_eq_false ?_).symm
  rintro (⟨s,h,hh⟩|h)
  ·have:=key (j:=0) (s:=s) (.inl (by omega)) h
   omega
  ·omega
theorem ZnH{l:List Ed}(h:¬ ZZ3 l):l.length<=60/\∀s∈l,s.text.length<=200:=by
 have h1:l.length<=60:=by
  rcases Nat.lt_or_ge 60 l.length with q|q
  ·exact absurd (.inr q) h
  ·exact q
 refine⟨h1,fun s hs=>?_⟩
 rcases Nat.lt_or_ge 200 s.text.length with q|q
 ·refine absurd (.inl ⟨s,?_,q⟩) h
  rw[List.take_of_length_le (by omega)];exact hs
 ·exact q
theorem ZnI{l:List B8}(h:¬ ZSn l):l.length<=4/\(l.map List.length).sum<=900:=by
 have h1:¬ 4<l.length:=fun q=>h (.inl q)
 have h2:¬ 900<ZE3 0 l:=fun q=>h (.inr q)
 have:=ZdM l 0 (by omega)
 exact⟨by omega,by omega⟩
end Go.Q15
namespace Go.QAbs
variable {w:AV}{e:Env}{f g:FuncId}{a z:Int}{A:List (Bool × List Blk)}{args caps:LV}{k:List Fr}{l:List Nat}{s s0:B8}{d i ix la lm mx n o ver:Nat}{v:Opd}{O:Orc}{st:St}{Q:YD}
end Go.QAbs
namespace Go.Q15
open Go Go.QAbs
variable {w:AV}{e:Env}{f g:FuncId}{a z:Int}{A:List (Bool × List Blk)}{args caps:LV}{k:List Fr}{l:List Nat}{s s0:B8}{d i ix la lm mx n o ver:Nat}{v:Opd}{O:Orc}{ro x:Ro}{st:St}{t:Tr}{Q:YD}
def Zhb(r:AR)(o:Nat):Prop:=ZBv o/\r.states[o % 65536]?=some 1/\r.gens[o % 65536]?=some ((o / 65536:Nat):Int)
instance (r:AR) (o:Nat):Decidable (Zhb r o):=by unfold Zhb;exact inferInstance
theorem AROk.live{r:AR}(h:AROk r){x:Nd}(hx:lk r.nodes o=some x):Zhb r o/\o<18446744073709551616:=by
 obtain⟨s,g,k1,k2,k3,k4⟩:=h.key o x hx;obtain⟨h1,h2⟩:=h.hnd hx
 have:=h.n16
 have hm:o % 65536=s:=by omega
 have hd:o / 65536=g:=by omega
 unfold Zhb;rw[hm,hd];refine⟨⟨h1,k3,k4⟩,?_⟩;unfold ZBv at h1;omega
theorem ZnJ{x h:Nat}(hx:l[i]?=some x)(hn:h∉l.take i)(e:x≠h):h∉l.take (i+1):=by
 rw[ZZ hx,List.mem_append,List.mem_singleton]
 exact fun q=>q.elim hn fun q=>e q.symm
theorem ZOy(l:List Nat)(hb:l.length<4294967296)(h:Nat)(st:St):
 S Tb JA [.lit (l.map Zt),.int .u64 h] st=some (.bool (decide (h∈l)),st):=by
 refine QN Y (fun A hA=>?_)
 repeat'(first|refine ZE ?_|refine ZD ?_|refine ZG Y ?_|refine ZB Y ?_|refine ZC ?_|refine ZL ?_)
 refine Zy (α:=Nat) (fun i=>[(0,.lit (l.map Zt)),(1,.int .u64 h),(5,.int .i64 i)]) (fun i=>⟨A,false,[]⟩) (fun i=>i<=l.length/\h∉l.take i) (fun i=>l.length-i) 0 Y Y ⟨by omega,by simp⟩ ?_
 rintro i ⟨hi,hni⟩
 rcases Nat.lt_or_ge i l.length with hlt|hge
 ·obtain⟨x,hx⟩:∃x,l[i]?=some x:=⟨l[i]'hlt,jE _⟩
  have q:0<=((i:Nat):Int)/\l[((i:Nat):Int).toNat]?=some x:=⟨by omega,by rw[show ((i:Nat):Int).toNat=i by omega];exact hx⟩
  repeat'(first|refine QX Y Y q (fun _=>rfl) ?_|refine ZE ?_|refine ZD ?_|refine ZG Y ?_|refine ZB Y ?_|refine ZC ?_|refine QH Y ?_|refine QA Y Y ?_|(refine cm0 Y Y Y ?_ ?_<;>intro _<;>try omega)|refine ZQ Y ?_|refine ZH Y ?_|refine Zh Y Y (by omega) ?_|refine ZI ?_|refine ZP ?_|refine ZL ?_|refine ZO ?_|refine Zd ?_|refine Z0 ?_|refine Qu ?_|refine Z8 ?_|refine ZKV ?_)
  all_goals try omega
  ·rename_i e
   obtain rfl:x=h:=by omega
   rw[decide_eq_true (jM hx)]
   refine Zj hA (by simp) Y Y Y Y ?_
   rfl
  ·rename_i e
   exact⟨i+1,⟨rfl,rfl⟩,⟨by omega,ZnJ hx hni (by omega)⟩,by omega⟩
 ·obtain rfl:i=l.length:=by omega
  rw[List.take_length]at hni;rw[decide_eq_false hni]
  repeat'(first|refine ZE ?_|refine ZD ?_|refine ZG Y ?_|refine ZB Y ?_|refine ZC ?_|refine QH Y ?_|(refine cm0 Y Y Y ?_ ?_<;>intro _<;>try omega)|refine ZH Y ?_|refine ZP ?_|refine Zq ?_|refine ZO ?_|refine Zb ?_|refine Za Y ?_|refine Zn ?_)
  all_goals try omega
  refine Zj hA (by simp) Y Y Y Y ?_
  rfl
def ltL(n:Nat)(r:AR)(v:Nat)(ros:List Ro)(G0:List Blk)(w:Nat)(ss:List B8)(G1:List Blk):List Blk :=
 r.b0::r.b1::r.b2::r.b3 n 0::r.b4::r.b5 n 0::.arr 5 v (ros.map Ro.av)::(G0++.arr 1 w (ss.map .str)::G1)
section
variable {A:List (Bool × List Blk)}{r:AR}{v:Nat}{ros:List Ro}{G0:List Blk}{w:Nat}{ss:List B8}{G1:List Blk}
theorem ZZ4:Has ⟨A,false,ltL A.length r v ros G0 w ss G1⟩ A.length 0 r:=ZBy A [] (.arr 5 v (ros.map Ro.av)::(G0++.arr 1 w (ss.map .str)::G1)) r
theorem Zp6:Rd ⟨A,false,ltL A.length r v ros G0 w ss G1⟩ A.length 5 r.nodes:=(ZZ4).r.rd
theorem Zqq(r':AR):Qg ⟨A,false,ltL A.length r v ros G0 w ss G1⟩ A.length 0 r'=⟨A,false,ltL A.length r' v ros G0 w ss G1⟩:=ZOv A [] (.arr 5 v (ros.map Ro.av)::(G0++.arr 1 w (ss.map .str)::G1)) r r'
theorem Zqr:(ltL n r v ros G0 w ss G1)[6]?=some (.arr 5 v (ros.map Ro.av)):=rfl
theorem lt_7:(ltL n r v ros G0 w ss G1)[7+G0.length]?=some (.arr 1 w (ss.map .str)):=by
 rw[show 7+G0.length=G0.length+7 by omega]
 show (G0++.arr 1 w (ss.map .str)::G1)[G0.length]?=_
 exact ZR3 _ _ _
theorem ZnK(b:Blk):ltL n r v ros G0 w ss G1++[b]=ltL n r v ros G0 w ss (G1++[b]):=by simp[ltL]
theorem Zpf(v':Nat)(x:Ro):(ltL n r v ros G0 w ss G1).set 6 (.arr 5 v' (ros.map Ro.av++[x.av]))=ltL n r v' (ros++[x]) G0 w ss G1:=by
 unfold ltL;rw[List.map_append];rfl
theorem Zpg(w':Nat)(s:B8):(ltL n r v ros G0 w ss G1).set (7+G0.length) (.arr 1 w' (ss.map .str++[.str s]))=ltL n r v ros G0 w' (ss++[s]) G1:=by
 rw[show 7+G0.length=G0.length+7 by omega]
 unfold ltL;simp only[List.set_cons_succ,List.map_append]
 rw[show (G0++Blk.arr 1 w (ss.map .str)::G1).set G0.length (Blk.arr 1 w' (ss.map .str++[AV.str s]))=G0++Blk.arr 1 w' (ss.map .str++[AV.str s])::G1 by simp]
 rfl
end
theorem Zi5{ys:List Ed}{y:Ed}(h:ys[i]?=some y):((ys.map Ed.av).drop i).take (i+1-i)=[y].map Ed.av:=by
 rw[<- List.map_drop,<- List.map_take,show i+1-i=1 by omega]
 obtain⟨h1,h2⟩:=List.getElem?_eq_some_iff.1 h;rw[List.drop_eq_getElem_cons h1,h2];rfl
theorem ZnL(ys:List Ed):Q7 5 (ys.map Ed.av)=true:=by
 induction ys with
 | nil=>rfl
 | cons b s ih=>rw[jC,Q7,List.all_cons];exact Bool.and_eq_true_iff.2 ⟨rfl,ih⟩
theorem ZkA{keep:List Nat}{is:List QAbs.PI}{ys:List Ed}{y:Ed}{x a b:Opd}(hx:Zc e x=some (.lit (ys.map Ed.av)))(ha:Zc e a=some (.int .i64 i))(hb:Zc e b=some (.int .i64 z))(hz:z=i+1)(hy:ys[i]?=some y)
 (h:Is O is keep k Q ((d,.lit ([y].map Ed.av))::e) st):Is O (⟨some d,none,false,.slc 5 x (some a) (some b)⟩::is) keep k Q e st:=by
 have hlt:=(List.getElem?_eq_some_iff.1 hy).1;refine Zdx (r:=i+1) (l:=i) hx ?_ ?_ (ZnL _) ?_
 ·simp only[ZDP,ZF hb,Jc,List.length_map]
  rw[if_pos (by omega)];congr 1;omega
 ·simp only[ZDP,ZF ha,Jc]
  rw[if_pos (by omega)];rfl
 ·rw[Zi5 hy];exact h
theorem Zqs{texts:List B8}{ys:List Ed}(hl:¬ ZSn texts)(hm:¬ ZZ3 ys):(texts.flatten.length<=900/\texts.length<=4)/\ys.length<=60/\∀y∈ys,y.text.length<=200:=by
 refine⟨?_,ZnH hm⟩
 have:=ZnI hl
 rw[List.length_flatten];omega
theorem Zi6{texts:List B8}(h9:texts.flatten.length<=900):∀s∈texts,s.length<=900:=by
 intro s hs;obtain⟨i,hi,rfl⟩:=List.getElem_of_mem hs;have h1:=ZhX (l:=texts) (jE hi);have h2:=ZVs texts (i+1);rw[h1,lL]at h2;omega
theorem Zhc:∀(n:Nat) (l:List Nat),l.Nodup->(∀x∈l,x<n)->l.length<=n:=by
 intro n
 induction n with
 | zero=>intro l _ h;cases l with
  | nil=>exact Nat.le_refl _
  | cons a l=>have:=h a (by simp);omega
 | succ n ih =>
  intro l hd h
  by_cases hm:n∈l
  ·have := ih (l.erase n) (hd.erase n) (fun x hx => by
    have h1:=h x (List.mem_of_mem_erase hx)
    have h2:x≠n:=fun e=>by subst e;exact hd.not_mem_erase hx
    omega)
   rw[List.length_erase_of_mem hm]at this;omega
  ·have := ih l hd (fun x hx => by
    have h1:=h x hx
    have h2:x≠n:=fun e=>hm (e▸hx)
    omega)
   omega
theorem AROk.few{r:AR}(h:AROk r)(hd:l.Nodup)(hl:∀o∈l,∃x,lk r.nodes o=some x):l.length<=16384:=by
 have h16:=h.n16
 have key:∀o∈l,Zhb r o:=fun o ho=>by obtain⟨x,hx⟩:=hl o ho;exact (h.live hx).1
 have h1:(l.map (· % 65536)).Nodup:=by
  unfold List.Nodup at hd ⊢;rw[List.pairwise_map]
  refine hd.imp_of_mem (fun {p o} hp ho hne e=>hne ?_)
  have a:=(key p hp).2.2;have c:=(key o ho).2.2;rw[e,c]at a
  have:=Option.some.inj a
  omega
 have:=Zhc r.states.length _ h1 (fun x hx=>by
  obtain⟨o,ho,rfl⟩:=List.mem_map.1 hx
  exact (List.getElem?_eq_some_iff.1 (key o ho).2.1).1)
 rw[List.length_map]at this;omega
theorem ZnM(texts:List B8)(hl:texts.flatten.length<=900):∀i,i<=texts.length->(XV (texts.take i)).1.nodes.length+(XV (texts.take i)).1.n=1500:=by
 intro i
 induction i with
 | zero=>intro _;simp[XV,JF]
 | succ i ih =>
  intro hi
  obtain⟨s,hs⟩:∃s,texts[i]?=some s:=⟨texts[i]'(by omega),by simp[show i<texts.length by omega]⟩
  have hl2:=ZVs texts (i+1)
  have h:=ZZ2 texts hl i (by omega)
  obtain⟨hn,_⟩:=ZZ1 (s:=s) h (by rw[<- ZZ hs];omega)
  have hfl:=ZhX hs
  have hs2:s.length<=900:=by rw[hfl,lL]at hl2;omega
  obtain⟨b1,b2,b3⟩:=ZAE h.good (show s.length<=65536 by omega)
  obtain⟨w1,_⟩:=ZhY (ZBy [] [] [] _) h.ok h.good b1 (by rw[b3];omega) hn
  have h1:=w1.n;have h2:=w1.nl
  have h3:=ih (by omega)
  rw[ZZ hs,ZLh]
  show (wrV (Qx s) _).1.nodes.length+(wrV (Qx s) _).1.n=1500
  omega
theorem ZnN{N:ZJ}(hN:GoodN N){ros:List Ro}(h:PlanOk N ros){y:Ed}(hy:y.text.length<=200){B:Int}(hB:0<=B)(hr:∀r∈ros,r.m.b<=B):(ZDL N ros y).bytes<=B+200:=by
 unfold ZDL
 match hq:ZdL ros y.n with
 | none =>
  obtain⟨b1,b2,b3⟩:=ZAE hN (s:=y.text) (by omega)
  show (Qx y.text).bytes<=_;omega
 | some r =>
  have hm:=jM (show ros[_]?=some r from hq)
  obtain⟨h1,h2,h3,h4⟩:=h.rt r hm;have h5:=hr r hm;have p1:=Qr (x:=y.at_) h3
  have p2:=Qr (x:=y.len) (n:=r.m.b-JJ y.at_ r.m.b) (by omega)
  have:=ZOg hN (s:=y.text) h1.keep (a:=JJ y.at_ r.m.b) (n:=JJ y.len (r.m.b-JJ y.at_ r.m.b)) p1.1 p2.1 (by omega) (by omega) (by omega)
  show (Tr.own _).bytes<=_
  rw[ZCA,this.bytes];omega
structure MkInv(r:AR)(ros:List Ro)(ss:List B8)(n:Nat)(B:Nat):Prop where
 ok:AROk r
 good:GoodN r.nodes
 rts:Rts r.nodes ros ss
 len:ros.length=n
 n20:n<=20
 small:∀s∈ss,s.length<=B
 nl:r.nodes.length+r.n=1500
theorem MkInv.plan{r:AR}{ros:List Ro}{ss:List B8}{B:Nat}(h:MkInv r ros ss n B)(hB:B<=60000):PlanOk r.nodes ros:=h.rts.plan h.good (by have:=h.len;have:=h.n20;omega) (fun s hs=>by have:=h.small s hs;omega)
theorem MkInv.mb{r:AR}{ros:List Ro}{ss:List B8}{B:Nat}(h:MkInv r ros ss n B):∀ro∈ros,ro.m.b<=(B:Int):=by
 intro ro hr;obtain⟨i,hi,rfl⟩:=List.getElem_of_mem hr
 have hi2:i<ss.length:=by rw[<- h.rts.1];exact hi
 have g:=h.rts.2 i _ _ (jE hi) (jE hi2)
 have:=(g.b h.good).2
 have:=h.small _ (List.getElem_mem hi2)
 omega
theorem Zqt(texts:List B8)(ys:List Ed)(h9:texts.flatten.length<=900/\texts.length<=4)(hy12:ys.length<=12)(hys:∀y∈ys,y.text.length<=200)(A:List (Bool × List Blk)):
 Sp Tb Ye [.lit (texts.map .str),.lit (ys.map Ed.av)] ⟨A,false,[]⟩ (fun v st'=>∃r c ros ss G0 G1 n,v=.tup [.ptr A.length 5 0 0 0,.ref A.length 6 n 0 n,.ref A.length (7+G0.length) c 0 n,.bool true]/\st'=⟨A,false,ltL A.length r n ros G0 c ss G1⟩/\MkInv r ros ss n 3300):=by
 refine Zjf (rfl:Tb Ye=some (.pf Xy)) ?_;have hLd:=Zqo texts h9.1 h9.2 A [];have hLok:=ZZ2 texts h9.1 texts.length (Nat.le_refl _);have hnl0:=ZnM texts h9.1 texts.length (Nat.le_refl _);rw[List.take_length]at hLok hnl0;have hrl:=hLok.rts.1;obtain⟨r0,ros0,hV⟩:∃r0 ros0,XV texts=(r0,ros0):=⟨_,_,rfl⟩;rw[hV]at hLd hLok hrl hnl0
 simp only at hLd hLok hrl hnl0
 have hG:(ZEK ros0).length=texts.length:=by unfold ZEK;rw[List.length_map,hrl]
 generalize ZEK ros0=G0 at *
 change S Tb Yg [.lit (texts.map .str)] ⟨A,false,[]⟩=some (.tup [.ptr A.length 5 0 0 0,.ref A.length 6 texts.length 0 texts.length,.bool true],⟨A,false,r0.b0::r0.b1::r0.b2::r0.b3 A.length 0::r0.b4::r0.b5 A.length 0::.arr 5 texts.length (ros0.map Ro.av)::G0⟩) at hLd
 repeat'(first|refine ZE ?_|refine ZD ?_|refine ZG Y ?_|refine Zw Y Y ?_|refine ZB Y ?_|refine ZC ?_|refine ZH Y ?_|refine Jo Y Y ?_|refine QM Y Y Y Y ?_|refine ZA Y Y Y (hLd) ?_|refine ZI ?_)
 all_goals try contradiction
 refine ZGB (vx:=.lit (texts.map .str)) (ys:=texts.map .str) (bytes:=16) Y Y Y (by rw[List.length_map];omega) (by decide) (ZlF _) ?_
 repeat'(first|refine ZE ?_|refine ZD ?_|refine ZG Y ?_|refine ZB Y ?_|refine ZC ?_|refine ZL ?_)
 have hl7:(r0.b0::r0.b1::r0.b2::r0.b3 A.length 0::r0.b4::r0.b5 A.length 0::Blk.arr 5 texts.length (ros0.map Ro.av)::G0).length=7+G0.length:=by simp;omega
 rw[hl7,List.length_map]
 refine Zy (α:=Nat × Nat × AR × List Ro × List B8 × List Blk) (fun q=>[(1,.lit (ys.map Ed.av)),(8,.ptr A.length 5 0 0 0),(9,.ref A.length 6 (texts.length+q.2.1) 0 (texts.length+q.2.1)),(11,.ref A.length (7+G0.length) q.2.1 0 (texts.length+q.2.1)),(12,.int .i64 q.1)])
  (fun q=>⟨A,false,ltL A.length q.2.2.1 (texts.length+q.2.1) q.2.2.2.1 G0 q.2.1 q.2.2.2.2.1 q.2.2.2.2.2⟩) (fun q=>q.1<=ys.length/\q.2.1<=q.1/\MkInv q.2.2.1 q.2.2.2.1 q.2.2.2.2.1 (texts.length+q.2.1) (900+200*q.1)) (fun q=>ys.length-q.1) (0,0,r0,ros0,texts,[]) rfl rfl ⟨Nat.zero_le _,Nat.zero_le _,hLok.ok,hLok.good,hLok.rts,hrl,by simp only;omega,Zi6 h9.1,hnl0⟩ ?_
 rintro⟨i,c,r,ros,ss,G1⟩ ⟨hi,hci,hI⟩
 simp only at hi hci hI ⊢
 have hsl:=hI.rts.1;have hrs:=hI.len
 rcases Nat.lt_or_ge i ys.length with hlt|hge
 ·obtain⟨y,hyi⟩:∃y,ys[i]?=some y:=⟨ys[i]'(by omega),by simp[hlt]⟩
  have hy2:=hys y (jM hyi)
  have hP:PlanOk r.nodes ros:=hI.plan (by omega)
  obtain⟨hv,hvb⟩:=ZnF hI.good hP hy2
  have hvs:=ZnN hI.good hP hy2 (B:=((900+200*i:Nat):Int)) (by omega) hI.mb
  have hPl:=fun L (hR:Rd ⟨A,false,L⟩ A.length 5 r.nodes) (hg:St.get ⟨A,false,L⟩ A.length 6=some (.arr 5 (texts.length+c) (ros.map Ro.av)))=>Zpe (b:=0) hI.good hR hg hP (ys:=[y]) (by simp) (fun z hz=>by rw[List.mem_singleton]at hz;rw[hz];exact hy2)
  have hPl:=hPl _ Zp6 (ZfX (Zqr (r:=r) (v:=texts.length+c) (G0:=G0) (w:=c) (ss:=ss) (G1:=G1)) rfl)
  have hTx:=ZqY hI.good (Zp6 (A:=A) (r:=r) (v:=texts.length+c) (ros:=ros) (G0:=G0) (w:=c) (ss:=ss) (G1:=G1)) hv (by omega)
  have hln:=hv.len hI.good;simp only[jC,List.map_nil]at hPl;rw[hrs]at hPl
  generalize hT:ZDL r.nodes ros y=t at *
  rcases Nat.lt_or_ge r.n (nw t) with hfull|hroom
  ·have hWr:=Zi4 (ZZ4 (A:=A) (r:=r) (v:=texts.length+c) (ros:=ros) (G0:=G0) (w:=c) (ss:=ss) (G1:=G1)) hI.ok hI.good hv (by omega) hfull
   have eb:=ZnK (n:=A.length) (r:=r) (v:=texts.length+c) (ros:=ros) (G0:=G0) (w:=c) (ss:=ss) (G1:=G1) (.arr 5 0 [Ro.zero.av])
   generalize ltL A.length r (texts.length+c) ros G0 c ss G1=L1 at *
   repeat'(first|refine YH Y ?_|refine ZkA Y Y Y Y hyi ?_|refine QX (f:=Tr.av) (l:=[t]) Y Y ⟨by decide,rfl⟩ Z4 ?_|refine ZE ?_|refine ZD ?_|refine ZG Y ?_|refine Zw Y Y ?_|refine ZB Y ?_|refine ZC ?_|(refine cm0 Y Y Y ?_ ?_<;>intro _<;>try omega)|(refine cm0 Y Y Y ?_ ?_<;>intro _<;>try omega)|(refine cm0 Y Y Y ?_ ?_<;>intro _<;>try omega)|refine ZQ Y ?_|refine ZH Y ?_|refine Jo Y Y ?_|refine Zh Y Y (by omega) ?_|refine Z1 Y Y Y ?_|refine YQ Y Y Y Y Y Y ?_|refine QA Y (Zo _) ?_|refine ZA Y Y (by first|rfl|(simp only[lE,lN,lC,Ze,ZW,ZX];first|done|rfl)) (hPl) ?_|refine ZA Y Y (by first|rfl|(simp only[lE,lN,lC,Ze,ZW,ZX];first|done|rfl)) (hTx) ?_|refine ZA Y Y (by first|rfl|(simp only[lE,lN,lC,Ze,ZW,ZX];first|done|rfl)) (hWr) ?_|refine ZI ?_|refine Zq ?_|refine ZL ?_|refine Zb ?_|refine Za Y ?_|refine Z8 ?_)
   all_goals try first|contradiction|omega
   refine⟨(i+1,c,r,ros,ss,G1++[Blk.arr 5 0 [Ro.zero.av]]),⟨rfl,?_⟩,⟨by simp only;omega,by simp only;omega,hI.ok,hI.good,hI.rts,hrs,hI.n20,fun s hs=>by have:=hI.small s hs;simp only;omega,hI.nl⟩,by simp only;omega⟩
   exact congrArg (St.mk A false) eb
  ·have hWr:=ZfY (ZZ4 (A:=A) (r:=r) (v:=texts.length+c) (ros:=ros) (G0:=G0) (w:=c) (ss:=ss) (G1:=G1)) hI.ok hI.good hv (by omega) hroom
   rw[Zqq]at hWr
   obtain⟨w1,w2⟩:=ZhY (ZZ4 (A:=A) (r:=r) (v:=texts.length+c) (ros:=ros) (G0:=G0) (w:=c) (ss:=ss) (G1:=G1)) hI.ok hI.good hv (by omega) hroom
   have f6:(ltL A.length (wrV t r).1 (texts.length+c) ros G0 c ss G1)[6]?=_:=Zqr;have f7:(ltL A.length (wrV t r).1 (texts.length+c) ros G0 c ss G1)[7+G0.length]?=_:=lt_7;have n1:=w1.n;have n2:=w1.nl;have n3:=hI.nl;have n4:=hI.n20
   generalize hL2:ltL A.length (wrV t r).1 (texts.length+c) ros G0 c ss G1=L2 at *
   generalize ltL A.length r (texts.length+c) ros G0 c ss G1=L1 at *
   generalize (wrV t r).1=r2 at *
   generalize (wrV t r).2.1=ro at *
   generalize (wrV t r).2.2=hh at *
   generalize hTT:t.txt r.nodes=T at *
   have hl6:=(List.getElem?_eq_some_iff.1 f6).1;have hl7':=(List.getElem?_eq_some_iff.1 f7).1
   repeat'(first|refine YH Y ?_|refine ZkA Y Y Y Y hyi ?_|refine QX (f:=Tr.av) (l:=[t]) Y Y ⟨by decide,rfl⟩ Z4 ?_|refine ZE ?_|refine ZD ?_|refine ZG Y ?_|refine Zw Y Y ?_|refine ZB Y ?_|refine ZC ?_|refine Qv Y Y Y ?_|(refine cm0 Y Y Y ?_ ?_<;>intro _<;>try omega)|(refine cm0 Y Y Y ?_ ?_<;>intro _<;>try omega)|(refine cm0 Y Y Y ?_ ?_<;>intro _<;>try omega)|refine ZQ Y ?_|refine ZH Y ?_|refine Jo Y Y ?_|refine Zh Y Y (by omega) ?_|refine Z1 Y Y Y ?_|refine YQ Y Y Y Y Y Y ?_|refine QM Y Y Y Y ?_|refine QA Y (Zo _) ?_|refine ZA Y Y (by first|rfl|(simp only[lE,lN,lC,Ze,ZW,ZX];first|done|rfl)) (hPl) ?_|refine ZA Y Y (by first|rfl|(simp only[lE,lN,lC,Ze,ZW,ZX];first|done|rfl)) (hTx) ?_|refine ZA Y Y (by first|rfl|(simp only[lE,lN,lC,Ze,ZW,ZX];first|done|rfl)) (hWr) ?_|refine ZI ?_|refine ZL ?_)
   all_goals try first|contradiction|omega
   refine ZAa (es:=ros.map Ro.av) (ys:=[ro.av]) Y Y (ZAc f6) (by rw[List.length_map];omega) rfl rfl (by rw[List.length_map,List.length_singleton];omega) (by decide) ?_
   repeat'(first|refine ZD ?_|refine ZG Y ?_|refine ZB Y ?_|refine ZC ?_|refine QM Y Y Y Y ?_)
   refine ZAa (es:=ss.map .str) (ys:=[.str T]) Y Y ((jS (by omega)).trans (ZAc f7)) (by rw[List.length_map];omega) rfl rfl (by rw[List.length_map,List.length_singleton];omega) (by decide) ?_
   repeat'(first|refine ZD ?_|refine ZG Y ?_|refine ZB Y ?_|refine ZC ?_|refine Zh Y Y (by omega) ?_|refine Z0 ?_|refine Z8 ?_)
   refine⟨(i+1,c+1,r2,ros++[ro],ss++[T],G1++[.arr 5 0 [ro.av]]),⟨rfl,?_⟩,⟨by simp only;omega,by simp only;omega,w1.ok,w1.good,(hI.rts.ext hI.good w1.ext).snoc w2,by simp only[lL,List.length_singleton];omega,by simp only;omega,fun s hs=>?_,by simp only;omega⟩,by simp only;omega⟩
   ·show (⟨A,false,((L2++[Blk.arr 5 0 [ro.av]]).set 6 (Blk.arr 5 (texts.length+c+1) (ros.map Ro.av++[ro.av]))).set (7+G0.length) (Blk.arr 1 (c+1) (ss.map AV.str++[AV.str T]))⟩:St)=_
    rw[<- hL2,ZnK,Zpf,Zpg];rfl
   ·rcases List.mem_append.1 hs with q|q
    ·have:=hI.small s q;simp only;omega
    ·rw[List.mem_singleton.1 q];simp only;omega
 ·obtain rfl:i=ys.length:=by omega
  repeat'(first|refine YH Y ?_|refine ZE ?_|refine ZD ?_|refine ZG Y ?_|refine ZB Y ?_|refine ZC ?_|(refine cm0 Y Y Y ?_ ?_<;>intro _<;>try omega)|refine ZH Y ?_|refine ZP ?_|refine Zq ?_|refine ZO ?_|refine Zb ?_|refine Za Y ?_|refine Zn ?_)
  all_goals try omega
  refine⟨_,_,J9 (.inr Y) Y Y Y Y,r,c,ros,ss,G0,G1,texts.length+c,rfl,rfl,hI.ok,hI.good,hI.rts,hrs,hI.n20,fun s hs=>?_,hI.nl⟩
  have:=hI.small s hs
  omega
def bel(N:ZJ):Nat->Nat->List Nat->List Nat
 | 0,h,s=>if h∈s then s else s++[h]
 | n+1,h,s=>if h∈s then s else (ZAz N h).ks.foldl (fun s k=>bel N n k.at_ s) (s++[h])
structure Visit(τ:List Nat->List Nat->St)(lm mx:Nat)(g:FuncId)(caps:LV):Prop where
 len:∀u w u' w',(τ u w).ps.length=(τ u' w').ps.length
 wr:∀u w,(τ u w).wr lm
 get:∀u w,(τ u w).get lm mx=some (.map (YI u))
 upd:∀u w v,(τ u w).upd lm mx (.map (YI v))=τ v w
 call:∀u w h more L,w.length<1000000000->∃v,S Tb g ([.int .u64 (h:Nat)]++caps) ⟨(τ u w).ps++more,false,L⟩=some (v,⟨(τ u (w++[h])).ps++more,false,L⟩)
 wk:∀h:Nat,ZX (Ze ([]++[.int .u64 (h:Nat)]++caps))=some ([.int .u64 (h:Nat)]++caps)
 wk2:∀la b h:Nat,ZX (Ze ([]++[.ptr la b 0 0 0,.int .u64 (h:Nat),.map lm mx,.func (.func g) [] caps]++[]))=some [.ptr la b 0 0 0,.int .u64 (h:Nat),.map lm mx,.func (.func g) [] caps]
theorem ZnP{L:List Blk}{keep:List Nat}{is:List QAbs.PI}{s0:St}{more:List (Bool × List Blk)}{x i:Opd}{lv h:Nat}{es es':List (AV × AV)}(hx:Zc e x=some (.map lv ix))(hi:Zc e i=some (.int .u64 h))(hv:Zc e v=some w)(hw:s0.wr lv)(hg:s0.get lv ix=some (.map es))
 (hs:ZY QD (lv+1) ⟨s0.ps++more,false,L⟩ w=some (w,⟨s0.ps++more,false,L⟩)) (hp:ZBh (.int .u64 h) w es=some es')
 (hh:Is O is keep k Q e ⟨(s0.upd lv ix (.map es')).ps++more,false,L⟩):Is O (⟨none,none,false,.mupd 0 x i v⟩::is) keep k Q e ⟨s0.ps++more,false,L⟩:=by
 have hl:=St.get_le hg;have g':=ZB8 hg more false L;have w':=Zj4 hl hw more false L;refine Z3 (od:=none) (v:=.undef) (st':=St.upd ⟨s0.ps++more,false,L⟩ lv ix (.map es')) ?_ ?_
 ·simp only[Zg,evalPO,ZF hx,ZF hi,ZF hv,ZHZ,YG,if_true,hs,oS,ZJw,g',ZBi,hp,St.put_upd w' g',ZA9]
 ·rw[ZhM hl];exact hh
theorem Zhd{N:ZJ}{P:Nat}(ih:∀(h:Nat) (s:List Nat) (x:Nd),lk N h=some x->x.h=n->3*(bel N n h s).length+1<=3*s.length+P):∀(ks:List Kid) (s:List Nat),(∀k∈ks,∃y,lk N k.at_=some y/\y.h=n)->3*(ks.foldl (fun s k=>bel N n k.at_ s) s).length+ks.length<=3*s.length+ks.length*P:=by
 intro ks
 induction ks with
 | nil=>intro s _;simp
 | cons k l ihl =>
  intro s hk;rw[List.foldl_cons]
  obtain⟨y,y1,y2⟩:=hk k (by simp)
  have a1:=ih k.at_ s y y1 y2
  have a2:=ihl (bel N n k.at_ s) (fun z hz=>hk z (List.mem_cons_of_mem _ hz))
  rw[List.length_cons,Nat.add_mul];omega
theorem Zph{N:ZJ}(hN:GoodN N):∀(n h:Nat) (s:List Nat) (x:Nd),lk N h=some x->x.h=n->3*(bel N n h s).length+1<=3*s.length+4 ^ (n+1):=by
 intro n
 induction n with
 | zero =>
  intro h s x hx hh;rw[bel]
  split
  ·omega
  ·rw[lL];simp;omega
 | succ n ih =>
  intro h s x hx hh;rw[bel,Yl hx]
  have hp:4 ^ (n+1+1)=4*4 ^ (n+1):=by rw[Nat.pow_succ];omega
  have h1:0<4 ^ (n+1):=Nat.pow_pos (by decide)
  split
  ·omega
  ·have hk4:=(hN h x hx).1.len
   have hkids:=(hN h x hx).2
   have:=Zhd ih x.ks (s++[h]) (fun k hk=>by obtain⟨_,y,y1,y2,_⟩:=hkids k hk;exact⟨y,y1,by omega⟩)
   rw[lL,List.length_singleton]at this
   have h3:(4-x.ks.length)*4 ^ (n+1)+x.ks.length*4 ^ (n+1)=4*4 ^ (n+1):=by rw[<- Nat.add_mul];congr 1;omega
   have h4:(4-x.ks.length)*1<=(4-x.ks.length)*4 ^ (n+1):=Nat.mul_le_mul_left _ h1
   generalize 4 ^ (n+1)=P at *
   generalize (4-x.ks.length)*P=P1 at *
   generalize x.ks.length*P=P2 at *
   omega
theorem ZZ5{τ:List Nat->List Nat->St}(hV:Visit τ lm mx g caps){N:ZJ}{b:Nat}(hR:∀u w,Rd (τ u w) la (b+5) N){h:Nat}{x:Nd}(hx:lk N h=some x)(hk4:x.ks.length<=4)(s:List Nat)(hs:h∉s)(f:Kid->List Nat->List Nat){B:Nat}(hB:B<=900000000)
 (hlen:∀i,((x.ks.take i).foldl (fun s k=>f k s) (s++[h])).length<=B)
 (hf:∀k∈x.ks,∀(s:List Nat) (more:List (Bool × List Blk)) (L:List Blk),s.length<=B->S Tb JT [.ptr la (b+5) 0 0 0,.int .u64 k.at_,.map lm mx,.func (.func g) [] caps] ⟨(τ s s).ps++more,false,L⟩=some (.int .i64 0,⟨(τ (f k s) (f k s)).ps++more,false,L⟩))
 {more:List (Bool × List Blk)} {st st':St} (hst:st.ps=(τ s s).ps++more) (hst':st'.ps=(τ (x.ks.foldl (fun s k=>f k s) (s++[h])) (x.ks.foldl (fun s k=>f k s) (s++[h]))).ps++more) :
 S Tb JT [.ptr la (b+5) 0 0 0,.int .u64 h,.map lm mx,.func (.func g) [] caps] st=some (.int .i64 0,st'):=by
 refine ZBe Y (fun A hA=>?_)
 have hA2:A=(τ s s).ps++more:=hA.trans hst;clear hA;subst hA2
 have hlk:=fun L=>ZGD (ZB8 (hV.get s s) more false L) h
 simp only[decide_eq_false hs]at hlk;have hl0:=hlen 0;simp only[List.take_zero,List.foldl_nil,lL,List.length_singleton]at hl0
 repeat'(first|refine ZE ?_|refine ZD ?_|refine ZG Y ?_|refine ZB Y ?_|refine ZC ?_|refine ZH Y ?_|refine Jz Y Y (hlk _) ?_|refine ZI ?_)
 all_goals try contradiction
 refine ZnP Y Y Y (hV.wr s s) (hV.get s s) Y (ZOp h s hs) ?_;rw[hV.upd]
 have hG:=fun L=>Zgz ((hR (s++[h]) s).more more false L) hx hk4
 have hcp:x.copy.av=.agg [.int .i64 x.h,.str x.text,.lit (x.ks.map Kid.av)]:=rfl;rw[hcp]at hG
 obtain⟨v,hc⟩:=hV.call (s++[h]) s h more [.arr 3 0 [.agg [.int .i64 x.h,.str x.text,.lit (x.ks.map Kid.av)]]] (by omega)
 generalize hA1:(τ (s++[h]) s).ps++more=A1 at *
 repeat'(first|refine ZA Y Y (hV.wk h) hc ?_|refine ZE ?_|refine ZD ?_|refine ZG Y ?_|refine ZV Y Y ?_|refine Zw Y Y ?_|refine ZB Y ?_|refine ZC ?_|(refine cm0 Y Y Y ?_ ?_<;>intro _<;>try omega)|refine ZH Y ?_|refine Zi Y Y Y ?_|refine Zv Y Y Y Y Y Y ?_|refine ZA Y Y Y (hG _) ?_|refine ZI ?_)
 all_goals try contradiction
 obtain⟨A2,hA2⟩:∃A2,A2=(τ (s++[h]) (s++[h])).ps++more:=⟨_,rfl⟩
 have e12:A1.length=A2.length:=by
  have:=hV.len (s++[h]) s (s++[h]) (s++[h])
  rw[<- hA1,hA2];simp only[lL]at this ⊢;omega
 rw[<- hA2,e12]
 repeat'(first|refine YH Y ?_|refine ZG Y ?_|refine ZU Y Y Y Y ?_|refine ZB Y ?_|refine ZC ?_|refine ZL ?_)
 refine Zy (α:=Nat × List Blk) (fun p=>[(0,.ptr la (b+5) 0 0 0),(2,.map lm mx),(3,.func (.func g) [] caps),(32,.lit (x.ks.map Kid.av)),(33,.int .i64 x.ks.length),(34,.int .i64 p.1)])
  (fun p=>⟨(τ ((x.ks.take p.1).foldl (fun s k=>f k s) (s++[h])) ((x.ks.take p.1).foldl (fun s k=>f k s) (s++[h]))).ps++more,false,.arr 3 0 [.agg [.int .i64 x.h,.str x.text,.lit (x.ks.map Kid.av)]]::p.2⟩) (fun p=>p.1<=x.ks.length) (fun p=>x.ks.length-p.1) (0,[]) rfl (by rw[hA2];rfl) (Nat.zero_le _) ?_
 rintro⟨i,G⟩ hi
 simp only at hi ⊢
 rcases Nat.lt_or_ge i x.ks.length with hlt|hge
 ·obtain⟨kd,hk⟩:∃k,x.ks[i]?=some k:=⟨x.ks[i]'hlt,jE _⟩
  have qk:0<=((i:Nat):Int)/\x.ks[((i:Nat):Int).toNat]?=some kd:=⟨by omega,by rw[show ((i:Nat):Int).toNat=i by omega];exact hk⟩
  have hcl:=fun L=>hf kd (jM hk) _ more L (hlen i)
  have hnx:(x.ks.take (i+1)).foldl (fun s k=>f k s) (s++[h])=f kd ((x.ks.take i).foldl (fun s k=>f k s) (s++[h])):=by
   rw[ZZ hk,List.foldl_append];rfl
  rw[<- hnx]at hcl
  generalize hP:(τ ((x.ks.take (i+1)).foldl (fun s k=>f k s) (s++[h])) ((x.ks.take (i+1)).foldl (fun s k=>f k s) (s++[h]))).ps++more=P at *
  generalize (τ ((x.ks.take i).foldl (fun s k=>f k s) (s++[h])) ((x.ks.take i).foldl (fun s k=>f k s) (s++[h]))).ps++more=A3 at *
  repeat'(first|refine QX (f:=Kid.av) Y Y qk (fun _=>rfl) ?_|refine ZA Y Y (hV.wk2 _ _ _) (hcl _) ?_|refine ZE ?_|refine ZD ?_|refine ZG Y ?_|refine ZV Y Y ?_|refine ZB Y ?_|refine ZC ?_|refine Qv Y Y Y ?_|refine QA Y Y ?_|(refine cm0 Y Y Y ?_ ?_<;>intro _<;>try omega)|refine ZQ Y ?_|refine ZH Y ?_|refine Zh Y Y (by omega) ?_|refine Z1 Y Y Y ?_|refine YQ Y Y Y Y Y Y ?_|refine ZI ?_|refine ZL ?_|refine Z0 ?_|refine Z8 ?_)
  all_goals try first|contradiction|omega
  refine⟨(i+1,G++[.arr 4 0 [kd.av]]),⟨rfl,?_⟩,by simp only;omega,by simp only;omega⟩
  simp only
  rw[hP];rfl
 ·obtain rfl:i=x.ks.length:=by omega
  rw[List.take_length]
  repeat'(first|refine ZE ?_|refine ZD ?_|refine ZG Y ?_|refine ZB Y ?_|refine ZC ?_|(refine cm0 Y Y Y ?_ ?_<;>intro _<;>try omega)|refine ZH Y ?_|refine ZP ?_|refine Zq ?_|refine ZO ?_|refine Zb ?_|refine Za Y ?_|refine Zn ?_)
  all_goals try omega
  refine Zj (st:=st') hst'.symm (.inr Y) Y Y Y Y ?_;rfl
theorem ZZ6{τ:List Nat->List Nat->St}(hV:Visit τ lm mx g caps){b:Nat}{h:Nat}(s:List Nat)(hs:h∈s){more:List (Bool × List Blk)}(hst:st.ps=(τ s s).ps++more):
 S Tb JT [.ptr la (b+5) 0 0 0,.int .u64 h,.map lm mx,.func (.func g) [] caps] st=some (.int .i64 0,st):=by
 refine ZBe Y (fun A hA=>?_)
 have hA2:A=(τ s s).ps++more:=hA.trans hst;have hA0:=hA;clear hA;subst hA2
 have hlk:=fun L=>ZGD (ZB8 (hV.get s s) more false L) h
 simp only[decide_eq_true hs]at hlk
 repeat'(first|refine ZE ?_|refine ZD ?_|refine ZG Y ?_|refine ZB Y ?_|refine ZC ?_|refine ZQ Y ?_|refine Jz Y Y (hlk _) ?_|refine ZP ?_|refine ZO ?_|refine Zd ?_)
 all_goals try contradiction
 refine Zj (st:=st) hA0 (.inr Y) Y Y Y Y ?_;rfl
theorem ZnQ{s t:St}(h:s.ps=t.ps):s=t:=by
 obtain⟨A,r,L⟩:=s;obtain⟨A',r',L'⟩:=t
 have:=List.append_inj' h rfl
 obtain⟨rfl,h2⟩:=this;simp only[List.cons.injEq,jP,and_true]at h2;obtain⟨rfl,rfl⟩:=h2;rfl
theorem ZkB{τ:List Nat->List Nat->St}(hV:Visit τ lm mx g caps){N:ZJ}(hN:GoodN N){b:Nat}(hR:∀u w,Rd (τ u w) la (b+5) N):∀(n h:Nat) (x:Nd) (s:List Nat),lk N h=some x->x.h=n->s.length+4 ^ (n+1)<=900000000->∀ {more:List (Bool × List Blk)} {st st':St},st.ps=(τ s s).ps++more->st'.ps=(τ (bel N n h s) (bel N n h s)).ps++more ->
 S Tb JT [.ptr la (b+5) 0 0 0,.int .u64 h,.map lm mx,.func (.func g) [] caps] st=some (.int .i64 0,st'):=by
 intro n
 induction n with
 | zero =>
  intro h x s hx hh hb more st st' hst hst'
  by_cases hm:h∈s
  ·rw[bel,if_pos hm,<- hst]at hst'
   rw[ZnQ hst'];exact ZZ6 hV s hm hst
  ·rw[bel,if_neg hm]at hst'
   have hks:x.ks=[]:=by
    rcases (hN h x hx).1 with q|⟨m,ks,q⟩
    ·exact q.ks
    ·have e:=q.eq;subst e;simp at hh
   refine ZZ5 hV hR hx (by rw[hks];decide) s hm (fun _ s=>s) (Nat.le_refl _) (fun i=>?_) (fun k hk=>by rw[hks]at hk;simp at hk) hst (by rw[hks];exact hst')
   rw[hks,List.take_nil,List.foldl_nil,lL,List.length_singleton]
   simp at hb;omega
 | succ n ih =>
  intro h x s hx hh hb more st st' hst hst'
  by_cases hm:h∈s
  ·rw[bel,if_pos hm,<- hst]at hst'
   rw[ZnQ hst'];exact ZZ6 hV s hm hst
  ·rw[bel,if_neg hm,Yl hx]at hst'
   have hk4:=(hN h x hx).1.len;have hkids:=(hN h x hx).2
   have hp:4 ^ (n+1+1)=4*4 ^ (n+1):=by rw[Nat.pow_succ];omega
   have h1:4<=4 ^ (n+1):=by rw[Nat.pow_succ];have:0<4 ^ n:=Nat.pow_pos (by decide);omega
   refine ZZ5 hV hR hx hk4 s hm (fun k s=>bel N n k.at_ s) (B:=900000000-4 ^ (n+1)) (by omega) (fun i=>?_) (fun k hk s' more' L hl=>?_) hst hst'
   ·have:=Zhd (Zph hN n) (x.ks.take i) (s++[h]) (fun k hk=>by obtain⟨_,y,y1,y2,_⟩:=hkids k (List.mem_of_mem_take hk);exact⟨y,y1,by omega⟩)
    rw[lL,List.length_singleton]at this
    have hti:(x.ks.take i).length<=4:=by rw[List.length_take];omega
    have h4:(x.ks.take i).length*4 ^ (n+1)<=4*4 ^ (n+1):=Nat.mul_le_mul_right _ hti
    generalize (x.ks.take i).length*4 ^ (n+1)=P2 at *
    generalize 4 ^ (n+1)=P at *
    omega
   ·obtain⟨_,y,y1,y2,_⟩:=hkids k hk
    exact ih k.at_ y s' y1 (by omega) (by omega) (more:=more'++[(false,L)]) (List.append_assoc ..) (List.append_assoc ..)
theorem Zhe:∀l:List Tr,(∀t∈l,4*(t.siz:Int)+4<=t.bytes)->4*(Tr.sizL l:Int)+4*l.length<=Tr.bytesL l
 | [],_=>by simp[Tr.sizL,Tr.bytesL]
 | t::l,h=>by
  have h1:=h t (by simp)
  have h2:=Zhe l fun u hu=>h u (by simp[hu])
  simp only[Tr.sizL,Tr.bytesL,List.length_cons];omega
theorem ZnR{N:ZJ}(hN:GoodN N)(hv:Val N t):(t.siz:Int)<=t.bytes+1/\(Big t->4*(t.siz:Int)+4<=t.bytes):=by
 have hsz:=hv.size hN;have hps:=hv.pos.2
 induction hv with
 | @kept o h m k x h0 hx hok hh hm hk =>
  have ec:(Tr.mk o h m [] k).siz=1:=by rw[Tr.siz,Tr.sizO_getD,hk];rfl
  have hl:h<=16:=by
   rcases hok with q|⟨n,ks,q⟩
   ·rw[<- hh,q.h];omega
   ·have:=q.n15;have e:=q.eq;subst e;simp only at hh;omega
  rw[ec]
  refine⟨by omega,fun q=>?_⟩
  have h1:=hsz q;have h2:=(ZEy hl).1;simp only[Tr.h]at h1;omega
 | @leaf s k h1 h2 hk =>
  have ec:(Tr.mk 0 0 .zero s k).siz=1:=by rw[Tr.siz,Tr.sizO_getD,hk];rfl
  rw[ec]
  refine⟨by omega,fun q=>?_⟩
  have:=q rfl
  omega
 | @inner h l hh h2 h4 hl hb hv ih =>
  have ec:(Tr.mk 0 (h+1) .zero [] (some l)).siz=Tr.sizL l+1:=by rw[Tr.siz,Tr.sizO];omega
  have eb:(Tr.mk 0 (h+1) .zero [] (some l)).bytes=Tr.bytesL l:=by rw[Tr.bytes,Tr.bytesO];simp[Mea.zero]
  have:=Zhe l fun u hu=>(ih u hu ((hv u hu).size hN) (hv u hu).pos.2).2 (fun q=>hb u hu (by rw[<- hl u hu];exact q))
  rw[ec,eb]
  exact⟨by omega,fun _=>by omega⟩
theorem ZnS{N:ZJ}(hv:Val N t):∀out:List Nat,(∀h∈out,∃x,lk N h=some x)->∀h∈t.kwT out,∃x,lk N h=some x:=by
 induction hv with
 | @kept o h m k x h0 hx hok hh hm hk =>
  intro out ho a ha;rw[Tr.kwT,Tr.kwO_getD,hk,Tr.kwL]at ha
  split at ha
  ·rcases List.mem_append.1 ha with q|q
   ·exact ho a q
   ·rw[List.mem_singleton.1 q];exact⟨x,hx⟩
  ·exact ho a ha
 | @leaf s k h1 h2 hk =>
  intro out ho a ha
  rw[Tr.kwT,Tr.kwO_getD,hk,Tr.kwL,if_neg (by simp)]at ha
  exact ho a ha
 | @inner h l hh h2 h4 hl hb hv ih =>
  intro out ho a ha
  rw[Tr.kwT,Tr.kwO,if_neg (by simp)]at ha
  have key:∀(l:List Tr) (out:List Nat),(∀t∈l,∀out:List Nat,(∀h∈out,∃x,lk N h=some x)->∀h∈t.kwT out,∃x,lk N h=some x)->(∀h∈out,∃x,lk N h=some x)->∀a∈Tr.kwL l out,∃x,lk N a=some x:=by
   intro l
   induction l with
   | nil=>intro out _ ho a ha;exact ho a ha
   | cons t l ihl =>
    intro out hi ho a ha;rw[Tr.kwL]at ha
    exact ihl (t.kwT out) (fun u hu=>hi u (List.mem_cons_of_mem _ hu)) (hi t (by simp) out ho) a ha
  exact key l out ih ho a ha
theorem ZrZ(h:Nat)(st:St):S Tb YV [.int .u64 h] st=some (.tup [],st):=by
 refine QN Y (fun A hA=>?_)
 repeat'(first|refine ZI ?_|refine ZO ?_)
 refine Zj hA (by simp) Y Y Y Y ?_
 rfl
def dr1(A:List (Bool × List Blk))(b4 b5 b8:Blk)(u:List Nat):St:=⟨A,false,[b4,b5,b8,.map (YI u),.arr 1 0 [.map A.length 3]]⟩
def dr2(A:List (Bool × List Blk))(b4 b5 b8:Blk)(has u o:List Nat):St:=⟨A,false,[b4,b5,b8,.map (YI has),.arr 1 0 [.map A.length 3],.arr 1 o.length (o.map Zt),.arr 1 0 [.ref A.length 5 o.length 0 o.length],.map (YI u)]⟩
theorem Zqu(A:List (Bool × List Blk))(b4 b5 b8:Blk):Visit (fun u _=>dr1 A b4 b5 b8 u) A.length 3 YV [] where
 len _ _ _ _:=by simp[dr1]
 wr _ _:=by simp[St.wr,dr1]
 get _ _:=St.get_cur ..
 upd _ _ _:=by simp[St.upd,dr1]
 call u w h more L _:=⟨_,ZrZ h _⟩
 wk _:=rfl
 wk2 _ _ _:=rfl
theorem Zqv(A:List (Bool × List Blk))(b4 b5 b8:Blk)(has u o:List Nat):Cl (dr2 A b4 b5 b8 has u o) [(A.length,5),(A.length,6)] [.arr 1 o.length (o.map Zt),.arr 1 0 [.ref A.length 5 o.length 0 o.length]]:=by
 refine⟨by simp,rfl,fun k hk=>?_,fun j lv ix b h1 h2=>?_⟩
 ·simp only[List.mem_cons,List.not_mem_nil,or_false]at hk
  rcases hk with rfl|rfl<;>simp[St.wr,dr2]
 ·match j,h1,h2 with
  | 0,h1,h2=>obtain⟨rfl,rfl⟩:=Prod.mk.inj (Option.some.inj h1);obtain rfl:=Option.some.inj h2;exact St.get_cur ..
  | 1,h1,h2=>obtain⟨rfl,rfl⟩:=Prod.mk.inj (Option.some.inj h1);obtain rfl:=Option.some.inj h2;exact St.get_cur ..
  | n+2,h1,h2=>simp at h1
theorem Zpi(A:List (Bool × List Blk))(b4 b5 b8:Blk)(has u o o':List Nat):Jh (dr2 A b4 b5 b8 has u o) [(A.length,5),(A.length,6)] [.arr 1 o'.length (o'.map Zt),.arr 1 0 [.ref A.length 5 o'.length 0 o'.length]]=dr2 A b4 b5 b8 has u o':=by
 simp[Jh,St.upd,dr2]
theorem Zra(A:List (Bool × List Blk))(b4 b5 b8:Blk)(has u o:List Nat)(h:Nat)(more:List (Bool × List Blk))(L:List Blk)(hl:o.length<1000000000):
 S Tb YW [.int .u64 h,.ptr A.length 4 0 0 0,.ptr A.length 6 0 0 0] ⟨(dr2 A b4 b5 b8 has u o).ps++more,false,L⟩=some (.tup [],⟨(dr2 A b4 b5 b8 has u (if h∈has then o else o++[h])).ps++more,false,L⟩):=by
 have H:=(Zqv A b4 b5 b8 has u o).more more false L;have hm4:St.get ⟨(dr2 A b4 b5 b8 has u o).ps++more,false,L⟩ A.length 4=some (.arr 1 0 [.map A.length 3]):=ZB8 (s:=dr2 A b4 b5 b8 has u o) (St.get_cur ..) more false L;have hm3:St.get ⟨(dr2 A b4 b5 b8 has u o).ps++more,false,L⟩ A.length 3=some (.map (YI has)):=ZB8 (s:=dr2 A b4 b5 b8 has u o) (St.get_cur ..) more false L
 by_cases hm:h∈has
 ·rw[if_pos hm]
  refine QN Y (fun A1 hA=>?_)
  have g4:=fun L'=>ZS hA (ro:=false) (L:=L') hm4
  have hlk:=fun L'=>ZGD (ZS hA (ro:=false) (L:=L') hm3) h
  simp only[decide_eq_true hm]at hlk
  repeat'(first|refine ZE ?_|refine ZD ?_|refine ZG Y ?_|refine ZB Y ?_|refine ZC ?_|refine ZH Y ?_|refine Jo Y Y ?_|refine QB Y (g4 _) Y Y ?_|refine Jz Y Y (hlk _) ?_|refine ZI ?_|refine ZO ?_)
  all_goals try contradiction
  refine Zj hA (by simp) Y Y Y Y ?_
  rfl
 ·rw[if_neg hm]
  have e:Jh ⟨(dr2 A b4 b5 b8 has u o).ps++more,false,L⟩ [(A.length,5),(A.length,6)] [.arr 1 (o++[h]).length ((o++[h]).map Zt),.arr 1 0 [.ref A.length 5 (o++[h]).length 0 (o++[h]).length]]=⟨(dr2 A b4 b5 b8 has u (o++[h])).ps++more,false,L⟩:=by
   rw[ZR9 (fun k hk=>by simp only[List.mem_cons,List.not_mem_nil,or_false]at hk;rcases hk with rfl|rfl<;>exact Nat.le_refl _),Zpi]
  rw[<- e]
  refine ZBe Y (fun A1 hA=>?_)
  have hA':A1=(Jh ⟨(dr2 A b4 b5 b8 has u o).ps++more,false,L⟩ [(A.length,5),(A.length,6)] [.arr 1 o.length (o.map Zt),.arr 1 0 [.ref A.length 5 o.length 0 o.length]]).ps:=by rw[H.same];exact hA
  have g4:=fun L'=>ZS hA (ro:=false) (L:=L') hm4
  have hlk:=fun L'=>ZGD (ZS hA (ro:=false) (L:=L') hm3) h
  simp only[decide_eq_false hm]at hlk
  have g6:=fun L'=>H.old hA' rfl rfl (ro:=false) (L:=L') (j:=1) rfl rfl
  repeat'(first|refine ZE ?_|refine ZD ?_|refine ZG Y ?_|refine ZB Y ?_|refine ZC ?_|refine ZQ Y ?_|refine Jo Y Y ?_|refine QM Y Y Y Y ?_|refine QB Y (g4 _) Y Y ?_|refine Jz Y Y (hlk _) ?_|refine QB Y (g6 _) Y Y ?_)
  all_goals try contradiction
  refine Zjk (es:=o.map Zt) (ys:=[.int .u64 h]) H hA' Y Y (j:=0) Y Y (by rw[List.length_map];rfl) rfl rfl rfl rfl (by rw[List.length_map,List.length_singleton];omega) (by decide) (fun A2 hA2 _=>?_)
  skip
  refine ZmX H hA2 Y Y (j:=1) Y Y Y Y Y (Ja _ (Nat.lt_succ_self _)) Y (fun A3 hA3 _=>?_)
  repeat'(first|refine ZB Y ?_|refine ZO ?_)
  have e3:((([Blk.arr 1 o.length (o.map Zt),Blk.arr 1 0 [.ref A.length 5 o.length 0 o.length]].set 0 (.arr 1 (o.length+1) (o.map Zt++[.int .u64 h]))).set 1 (.arr 1 0 ([AV.ref A.length 5 o.length 0 o.length].set 0 (.ref A.length 5 (o.length+1) 0 ((o.map Zt).length+[AV.int .u64 (h:Int)].length))))))=[.arr 1 (o++[h]).length ((o++[h]).map Zt),.arr 1 0 [.ref A.length 5 (o++[h]).length 0 (o++[h]).length]]:=by
   simp[Zt]
  replace hA3:A3=(Jh ⟨(dr2 A b4 b5 b8 has u o).ps++more,false,L⟩ [(A.length,5),(A.length,6)] [.arr 1 (o++[h]).length ((o++[h]).map Zt),.arr 1 0 [.ref A.length 5 (o++[h]).length 0 (o++[h]).length]]).ps:=by rw[<- e3];exact hA3
  refine Zj hA3 (.inl Y) Y Y Y Y ?_;rfl
theorem Zqw(A:List (Bool × List Blk))(b4 b5 b8:Blk)(has:List Nat):Visit (fun u w=>dr2 A b4 b5 b8 has u (w.filter fun h=>decide (h∉has))) A.length 7 YW [.ptr A.length 4 0 0 0,.ptr A.length 6 0 0 0] where
 len _ _ _ _:=by simp[dr2]
 wr _ _:=by simp[St.wr,dr2]
 get _ _:=St.get_cur ..
 upd _ _ _:=by simp[St.upd,dr2]
 call u w h more L hl:=by
  refine⟨.tup [],(Zra A b4 b5 b8 has u (w.filter fun h=>decide (h∉has)) h more L (Nat.lt_of_le_of_lt (List.length_filter_le ..) hl)).trans ?_⟩
  rw[List.filter_append]
  by_cases hm:h∈has
  ·rw[if_pos hm,show ([h].filter fun h=>decide (h∉has))=[] by simp[hm],lN]
  ·rw[if_neg hm,show ([h].filter fun h=>decide (h∉has))=[h] by simp[hm]]
 wk _:=rfl
 wk2 _ _ _:=rfl
def ZSF(N:ZJ)(l:List Nat):List Nat:=l.foldl (fun s h=>bel N (ZAz N h).h h s) []
def ZKJ(N:ZJ)(r:Ro)(t:Tr):List Nat:=if r.at_=0 then [] else (bel N r.h r.at_ []).filter fun h=>decide (h∉ZSF N (t.kwT []))
theorem Zqx{N:ZJ}(hN:GoodN N){h:Nat}{x:Nd}(h0:h≠0)(hx:lk N h=some x):x.h<=13 :=
 RtOk.h13 hN (r:=⟨h,x.h,x.mea⟩) (.inr ⟨h0,x,hx,(hN h x hx).1,rfl,rfl⟩)
def Lv(N:ZJ)(l:List Nat):Prop:=l.Nodup/\∀o∈l,∃x,lk N o=some x
theorem Lv.snoc{N:ZJ}(h:Lv N l)(ho:∃x,lk N o=some x)(hn:o∉l):Lv N (l++[o]):=by
 refine⟨?_,fun a ha=>?_⟩
 ·rw[List.nodup_append]
  refine⟨h.1,by simp,fun x hx y hy=>?_⟩
  rw[List.mem_singleton]at hy;intro e;rw[e,hy]at hx;exact hn hx
 ·rcases List.mem_append.1 ha with q|q
  ·exact h.2 a q
  ·rw[List.mem_singleton.1 q];exact ho
theorem ZnT{N:ZJ}(hN:GoodN N):∀(n h:Nat) (s:List Nat) (x:Nd),lk N h=some x->x.h=n->Lv N s->Lv N (bel N n h s):=by
 intro n
 induction n with
 | zero =>
  intro h s x hx hh hs;rw[bel]
  split
  ·exact hs
  ·rename_i q;exact hs.snoc ⟨x,hx⟩ q
 | succ n ih =>
  intro h s x hx hh hs;rw[bel,Yl hx]
  split
  ·exact hs
  ·rename_i q
   have key:∀(ks:List Kid) (s:List Nat),(∀k∈ks,∃y,lk N k.at_=some y/\y.h=n)->Lv N s->Lv N (ks.foldl (fun s k=>bel N n k.at_ s) s):=by
    intro ks
    induction ks with
    | nil=>intro s _ h;exact h
    | cons k l ihl =>
     intro s hk h
     obtain⟨y,y1,y2⟩:=hk k (by simp)
     exact ihl _ (fun z hz=>hk z (List.mem_cons_of_mem _ hz)) (ih k.at_ s y y1 y2 h)
   exact key x.ks _ (fun k hk=>by obtain⟨_,y,y1,y2,_⟩:=(hN h x hx).2 k hk;exact⟨y,y1,by omega⟩) (hs.snoc ⟨x,hx⟩ q)
theorem Zpj{N:ZJ}(hN:GoodN N)(hl:∀h∈l,∃x,lk N h=some x):Lv N (ZSF N l):=by
 have key:∀(l s:List Nat),(∀h∈l,∃x,lk N h=some x)->Lv N s->Lv N (l.foldl (fun s h=>bel N (ZAz N h).h h s) s):=by
  intro l
  induction l with
  | nil=>intro s _ h;exact h
  | cons a l ih =>
   intro s hl h
   obtain⟨x,hx⟩:=hl a (by simp)
   refine ih _ (fun z hz=>hl z (List.mem_cons_of_mem _ hz)) ?_
   show Lv N (bel N (ZAz N a).h a s)
   rw[Yl hx];exact ZnT hN _ a s x hx Y h
 exact key l [] hl ⟨by simp,by simp⟩
theorem Zqy{N:ZJ}(hN:∀o x,lk N o=some x->o≠0)(hv:VE N t):∀h∈t.kwT [],h≠0/\∃x,lk N h=some x:=by
 intro h hh
 rcases hv with q|q
 ·obtain⟨o,th,m,s,k⟩:=t
  have e1:=q.old;have e2:=q.ks;simp only[Tr.old,Tr.ks]at e1 e2;rw[Tr.kwT,Tr.kwO_getD,e2,Tr.kwL,e1]at hh
  simp at hh
 ·obtain⟨x,hx⟩:=ZnS q [] (by simp) h hh
  exact⟨hN h x hx,x,hx⟩
theorem ZnU{N:ZJ}(hN:GoodN N)(hv:VE N t)(hb:t.bytes<=65536):t.siz<4294967296:=by
 rcases hv with q|q
 ·obtain⟨o,th,m,s,k⟩:=t
  have e2:=q.ks;simp only[Tr.ks]at e2;rw[Tr.siz,Tr.sizO_getD,e2,Tr.sizL];omega
 ·have:=(ZnR hN q).1;omega
theorem ZlI{b:Nat}{N:ZJ}(hN:GoodN N)(hK:∀l,Lv N l->l.length<=16384)(hz:∀o x,lk N o=some x->o≠0)(hR:Rd st la (b+5) N){r:Ro}(hr:RtOk N r)(hv:VE N t)(hb:t.bytes<=65536):
 S Tb ZCQ [.ptr la (b+5) 0 0 0,r.av,t.av] st=some (.tup [.lit ((ZKJ N r t).map Zt),.int .i64 0],st):=by
 refine QN Y (fun A hA=>?_)
 have hRA:=fun L=>hR.push hA (ro:=false) (L:=L)
 have hKp:=fun L=>ZVn (hRA L) hr
 have hCk:=fun L=>ZZk (hRA L) hv hb
 have hKt:=fun st=>Zqe hv.pos.1 (ZnU hN hv hb) st
 have hkw:=Zqy hz hv;have hkl:=Tr.kwT_len t [];have hsz:=ZnU hN hv hb;unfold ZKJ
 generalize t.kwT []=kl at *
 simp only[List.length_nil]at hkl
 have hP13:∀n,n<=13->4 ^ (n+1)<=268435456:=fun n hn=>by
  have:4 ^ (n+1)<=4 ^ 14:=Nat.pow_le_pow_right (by decide) (by omega)
  exact this
 have hB1:∀(i h:Nat),kl[i]?=some h->S Tb JT [.ptr la (b+5) 0 0 0,.int .u64 h,.map A.length 3,.func (.func YV) [] []] (dr1 A (.arr 5 0 [r.av]) (.arr 7 0 [t.av]) (.arr 7 0 [(Yx r).av]) (ZSF N (kl.take i)))=some (.int .i64 0,dr1 A (.arr 5 0 [r.av]) (.arr 7 0 [t.av]) (.arr 7 0 [(Yx r).av]) (ZSF N (kl.take (i+1)))):=by
  intro i h hi;obtain⟨h0,x,hx⟩:=hkw h (jM hi)
  have hlv:=Zpj hN (l:=kl.take i) (fun z hz=>(hkw z (List.mem_of_mem_take hz)).2)
  have:=hK _ hlv
  have:=hP13 _ (Zqx hN h0 hx)
  have e:ZSF N (kl.take (i+1))=bel N x.h h (ZSF N (kl.take i)):=by
   rw[ZZ hi];unfold ZSF;rw[List.foldl_append,List.foldl_cons,List.foldl_nil,Yl hx]
  rw[e]
  exact ZkB (Zqu A _ _ _) hN (fun _ _=>hRA _) x.h h x _ hx Y (by omega) (more:=[]) (lN _).symm (lN _).symm
 have hB2:r.at_≠0->S Tb JT [.ptr la (b+5) 0 0 0,.int .u64 r.at_,.map A.length 7,.func (.func YW) [] [.ptr A.length 4 0 0 0,.ptr A.length 6 0 0 0]] (dr2 A (.arr 5 0 [r.av]) (.arr 7 0 [t.av]) (.arr 7 0 [(Yx r).av]) (ZSF N kl) [] [])=some (.int .i64 0,dr2 A (.arr 5 0 [r.av]) (.arr 7 0 [t.av]) (.arr 7 0 [(Yx r).av]) (ZSF N kl) (bel N r.h r.at_ []) ((bel N r.h r.at_ []).filter fun h=>decide (h∉ZSF N kl))):=by
  intro h0
  obtain⟨x,x1,x2,x3,x4⟩:∃x,lk N r.at_=some x/\NdOk x/\x.h=r.h/\x.mea=r.m:=by
   rcases hr with rfl|w
   ·exact absurd Y h0
   ·exact w.2
  have:=hP13 _ (hr.h13 hN)
  exact ZkB (Zqw A (.arr 5 0 [r.av]) (.arr 7 0 [t.av]) (.arr 7 0 [(Yx r).av]) (ZSF N kl)) hN (fun _ _=>hRA _) r.h r.at_ x [] x1 x3 (by simp only[List.length_nil];omega) (more:=[]) (lN _).symm (lN _).symm
 have hkll:kl.length<1000000000:=by
  have:kl.length<=t.siz:=by omega
  have h2:(t.siz:Int)<=65537:=by
   rcases hv with q|q
   ·obtain⟨o,th,m,s,k⟩:=t
    have e2:=q.ks;simp only[Tr.ks]at e2;rw[Tr.siz,Tr.sizO_getD,e2,Tr.sizL];decide
   ·have:=(ZnR hN q).1;omega
  omega
 unfold dr1 at hB1;unfold dr2 at hB2;obtain⟨ra,rh,rm⟩:=r
 unfold Ro.av at *
 generalize Yx ⟨ra,rh,rm⟩=kt at *
 repeat'(first|refine ZE ?_|refine ZD ?_|refine ZG Y ?_|refine ZU Y Y Y Y ?_|refine Zw Y Y ?_|refine ZB Y ?_|refine ZC ?_|(refine cm0 Y Y Y ?_ ?_<;>intro _<;>try omega)|refine ZH Y ?_|refine Zi Y Y Y ?_|refine ZCN Y ?_|refine ZA Y Y (by first|rfl|(simp only[lE,lN,lC,Ze,ZW,ZX];first|done|rfl)) (hKp _) ?_|refine ZA Y Y (by first|rfl|(simp only[lE,lN,lC,Ze,ZW,ZX];first|done|rfl)) (hCk _) ?_|refine ZU Y Y Y (Zo _) ?_|refine Zv Y Y Y (QQ _ _ _) (Qw _ _) Y ?_|refine Z1 Y (Z4 _) (QG _) ?_|refine ZI ?_)
 all_goals try contradiction
 refine Zv Y Y Y (by simp only[ZY,QD,if_pos (Nat.lt_succ_self _)]) Y Y ?_
 repeat'(first|refine ZU Y Y Y (Zo _) ?_|refine YH Y ?_|refine ZE ?_|refine ZD ?_|refine ZG Y ?_|refine ZB Y ?_|refine ZC ?_|refine ZA Y Y (by first|rfl|(simp only[lE,lN,lC,Ze,ZW,ZX];first|done|rfl)) (hKt _) ?_|refine ZL ?_)
 refine Zy (α:=Nat) (fun i=>[(0,.ptr la (b+5) 0 0 0),(4,.ptr A.length 0 0 0 0),(11,.ptr A.length 4 0 0 0),(34,.lit (kl.map Zt)),(35,.int .i64 kl.length),(36,.int .i64 i)])
  (fun i=>⟨A,false,[.arr 5 0 [Ro.av ⟨ra,rh,rm⟩],.arr 7 0 [t.av],.arr 7 0 [kt.av],.map (YI (ZSF N (kl.take i))),.arr 1 0 [.map A.length 3]]⟩) (fun i=>i<=kl.length) (fun i=>kl.length-i) 0 rfl rfl (Nat.zero_le _) ?_
 intro i hi;replace hi:i<=kl.length:=hi;unfold Ro.av
 rcases Nat.lt_or_ge i kl.length with hlt|hge
 ·obtain⟨h,hh⟩:∃x,kl[i]?=some x:=⟨kl[i]'hlt,jE _⟩
  have q:0<=((i:Nat):Int)/\kl[((i:Nat):Int).toNat]?=some h:=⟨by omega,by rw[show ((i:Nat):Int).toNat=i by omega];exact hh⟩
  have hB:=hB1 i h hh
  repeat'(first|refine QX (f:=Zt) Y Y q (fun _=>rfl) ?_|refine ZA Y Y Y hB ?_|refine ZE ?_|refine ZD ?_|refine ZG Y ?_|refine ZU Y Y Y Y ?_|refine ZB Y ?_|refine ZC ?_|refine QA Y Y ?_|(refine cm0 Y Y Y ?_ ?_<;>intro _<;>try omega)|refine ZQ Y ?_|refine ZH Y ?_|refine Zh Y Y (by omega) ?_|refine ZI ?_|refine ZL ?_|refine Z0 ?_|refine Z8 ?_)
  all_goals try first|contradiction|omega
  exact⟨i+1,⟨rfl,rfl⟩,by omega,by omega⟩
 ·obtain rfl:i=kl.length:=by omega
  rw[List.take_length]
  by_cases h0:ra=0
  ·subst h0
   repeat'(first|refine ZLf ?_|refine ZE ?_|refine ZD ?_|refine ZG Y ?_|refine ZV Y Y ?_|refine ZU Y Y Y Y ?_|refine ZB Y ?_|refine ZC ?_|(refine cm0 Y Y Y ?_ ?_<;>intro _<;>try omega)|refine ZQ Y ?_|refine ZH Y ?_|refine XY Y Y ?_|refine ZCN Y ?_|refine ZI ?_|refine ZP ?_|refine Zq ?_|refine ZO ?_|refine Zd ?_|refine Zb ?_|refine Za Y ?_|refine Zn ?_)
   all_goals try first|contradiction|omega
   refine Zj hA (by simp) Y Y Y Y ?_
   rfl
  ·have hB:=hB2 h0
   have h0i:((ra:Nat):Int)≠0:=by omega
   simp only[if_neg h0]
   generalize (bel N rh ra []).filter (fun h=>decide (h∉ZSF N kl))=out at *
   repeat'(first|refine ZLf ?_|refine ZA Y Y Y hB ?_|refine ZE ?_|refine ZD ?_|refine ZG Y ?_|refine ZV Y Y ?_|refine ZU Y Y Y Y ?_|refine ZB Y ?_|refine ZC ?_|(refine cm0 Y Y Y ?_ ?_<;>intro _<;>try omega)|refine ZH Y ?_|refine XY Y Y ?_|refine ZCN Y ?_|refine ZI ?_|refine ZP ?_|refine Zq ?_|refine ZO ?_|refine Zb ?_|refine Za Y ?_|refine Zn ?_)
   all_goals try first|contradiction|omega
   exact ZEU hA (.inr Y) Y Y (by simp) (fun v hv=>by obtain⟨x,_,rfl⟩:=List.mem_map.1 hv;rfl) rfl rfl
theorem Zpk{N:ZJ}(hN:GoodN N):∀(n h:Nat) (x:Nd),lk N h=some x->x.h=n->∀o∈XG N n h,∃y,lk N o=some y/\y.h<=n/\∀z∈XG N y.h o,z∈XG N n h:=by
 intro n
 induction n with
 | zero =>
  intro h x hx hh o ho;rw[XG,List.mem_singleton]at ho;subst ho
  exact⟨x,hx,by omega,fun z hz=>by rw[hh]at hz;exact hz⟩
 | succ n ih =>
  intro h x hx hh o ho;have hg:=(hN h x hx).2;rw[XG,Yl hx,List.mem_cons]at ho
  rcases ho with rfl|ho
  ·exact⟨x,hx,by omega,fun z hz=>by rw[hh]at hz;exact hz⟩
  ·obtain⟨k,hk,ho⟩:=List.mem_flatMap.1 ho
   obtain⟨_,y,y1,y2,_⟩:=hg k hk
   obtain⟨w,w1,w2,w3⟩:=ih k.at_ y y1 (by omega) o ho
   refine⟨w,w1,by omega,fun z hz=>?_⟩
   rw[XG,Yl hx,List.mem_cons];exact .inr (List.mem_flatMap.2 ⟨k,hk,w3 z hz⟩)
namespace Tr
end Tr
def DrOk(M:Nat)(G:List Blk)(dv:AV)(w:List Nat):Prop:=(w=[]/\dv=.nils)\/∃j ver,dv=.ref M (j+4) ver 0 w.length/\w≠[]/\G[j]?=some (.arr 1 ver (w.map Zt))
def chL(b6:Blk)(t:Tr)(dv:AV)(w:List Nat)(G:List Blk):List Blk :=
 b6::.arr 7 0 [t.av]::.arr 7 0 [.agg [.int .u64 0,.int .i64 0,.int .i64 0,.int .i64 0,.int .i64 0,.nils,dv]]::.map (YI w)::G
theorem Zhf{L:List Blk}{keep:List Nat}{is:List QAbs.PI}{x i:Opd}{h:Nat}{es es':List (AV × AV)}(hx:Zc e x=some (.map A.length ix))(hi:Zc e i=some (.int .u64 h))(hv:Zc e v=some w)(hg:L[ix]?=some (.map es))
 (hs:ZY QD (A.length+1) ⟨A,false,L⟩ w=some (w,⟨A,false,L⟩)) (hp:ZBh (.int .u64 h) w es=some es')
 (hh:Is O is keep k Q e ⟨A,false,L.set ix (.map es')⟩):Is O (⟨none,none,false,.mupd 0 x i v⟩::is) keep k Q e ⟨A,false,L⟩:=by
 have hlt:=(List.getElem?_eq_some_iff.1 hg).1;refine Z3 (od:=none) (v:=.undef) (st':=⟨A,false,L.set ix (.map es')⟩) ?_ hh;simp only[Zg,evalPO,ZF hx,ZF hi,ZF hv,ZHZ,YG,if_true,hs,oS,ZJw,St.get_cur,hg,vis,ZBi,hp,St.put,if_false,jB,if_pos hlt,ZA9]
theorem ZdO:∀(l w:List Nat),(l.foldl Jr w).length<=w.length+l.length:=by
 intro l
 induction l with
 | nil=>intro w;simp
 | cons a l ih =>
  intro w;rw[List.foldl_cons]
  have h1:(Jr w a).length<=w.length+1:=by unfold Jr;split<;>simp
  have h2:=ih (Jr w a);rw[List.length_cons];omega
theorem ZnV{b6:Blk}{dv:AV}{w dl:List Nat}{G:List Blk}(h0:DrOk A.length G dv w)(hl:w.length+dl.length<100000000){v0 v29 v30 v31:AV}
 (hQ:∀G' dv',DrOk A.length G' dv' (dl.foldl Jr w)->Rk (S Tb) k Q .norm [(0,v0),(6,.ptr A.length 0 0 0 0),(8,.ptr A.length 1 0 0 0),(10,.ptr A.length 2 0 0 0),(11,.map A.length 3),(29,v29),(30,v30),(31,v31),(46,.lit (dl.map Zt)),(47,.int .i64 dl.length),(48,.int .i64 dl.length),(49,.bool false)] ⟨A,false,chL b6 t dv' (dl.foldl Jr w) G'⟩) :
 Ru (S Tb) p_edit_change_19.loop (.blk 2::k) Q [(0,v0),(6,.ptr A.length 0 0 0 0),(8,.ptr A.length 1 0 0 0),(10,.ptr A.length 2 0 0 0),(11,.map A.length 3),(29,v29),(30,v30),(31,v31),(46,.lit (dl.map Zt)),(47,.int .i64 dl.length),(48,.int .i64 0)] ⟨A,false,chL b6 t dv w G⟩:=by
 refine Zy (α:=Nat × AV × List Blk) (fun p=>[(0,v0),(6,.ptr A.length 0 0 0 0),(8,.ptr A.length 1 0 0 0),(10,.ptr A.length 2 0 0 0),(11,.map A.length 3),(29,v29),(30,v30),(31,v31),(46,.lit (dl.map Zt)),(47,.int .i64 dl.length),(48,.int .i64 p.1)])
  (fun p=>⟨A,false,chL b6 t p.2.1 ((dl.take p.1).foldl Jr w) p.2.2⟩) (fun p=>p.1<=dl.length/\DrOk A.length p.2.2 p.2.1 ((dl.take p.1).foldl Jr w)) (fun p=>dl.length-p.1) (0,dv,G) rfl rfl ⟨Nat.zero_le _,h0⟩ ?_
 rintro⟨i,dv1,G1⟩ ⟨hi,hD⟩
 simp only at hi hD ⊢
 have hwl:=ZdO (dl.take i) w;rw[List.length_take,Nat.min_eq_left hi]at hwl
 rcases Nat.lt_or_ge i dl.length with hlt|hge
 ·obtain⟨h,hh⟩:∃x,dl[i]?=some x:=⟨dl[i]'hlt,jE _⟩
  have q:0<=((i:Nat):Int)/\dl[((i:Nat):Int).toNat]?=some h:=⟨by omega,by rw[show ((i:Nat):Int).toNat=i by omega];exact hh⟩
  have hnx:(dl.take (i+1)).foldl Jr w=Jr ((dl.take i).foldl Jr w) h:=by rw[ZZ hh,List.foldl_append];rfl
  generalize (dl.take i).foldl Jr w=W at *
  have hlk:=ZGD (st:=⟨A,false,chL b6 t dv1 W G1⟩) (lv:=A.length) (mx:=3) (St.get_cur ..) h
  by_cases hm:h∈W
  ·simp only[decide_eq_true hm]at hlk
   rw[show Jr W h=W by unfold Jr;rw[if_pos hm]]at hnx
   unfold chL at *
   repeat'(first|refine QX (f:=Zt) Y Y q (fun _=>rfl) ?_|refine ZE ?_|refine ZD ?_|refine ZG Y ?_|refine ZB Y ?_|refine ZC ?_|refine QA Y Y ?_|(refine cm0 Y Y Y ?_ ?_<;>intro _<;>try omega)|refine ZQ Y ?_|refine ZH Y ?_|refine Jo Y Y ?_|refine Zh Y Y (by omega) ?_|refine Jz Y Y hlk ?_|refine ZI ?_|refine ZL ?_|refine Z0 ?_|refine Z8 ?_)
   all_goals try first|contradiction|omega
   exact⟨(i+1,dv1,G1),⟨rfl,by simp only[hnx]⟩,⟨by simp only;omega,by simp only[hnx];exact hD⟩,by simp only;omega⟩
  ·simp only[decide_eq_false hm]at hlk
   rw[show Jr W h=W++[h] by unfold Jr;rw[if_neg hm]]at hnx
   have hpe:=ZOp h W hm
   rcases hD with⟨rfl,rfl⟩|⟨j,ver,rfl,hW,hg⟩
   ·unfold chL at *
    repeat'(first|refine QX (f:=Zt) Y Y q (fun _=>rfl) ?_|refine ZE ?_|refine ZD ?_|refine ZG Y ?_|refine ZB Y ?_|refine ZC ?_|refine QA Y Y ?_|(refine cm0 Y Y Y ?_ ?_<;>intro _<;>try omega)|refine ZQ Y ?_|refine Jo Y Y ?_|refine Jz Y Y hlk ?_|refine ZI ?_|refine ZL ?_)
    all_goals try first|contradiction|omega
    refine Zhf Y Y Y Y Y hpe ?_
    repeat'(first|refine ZD ?_|refine ZG Y ?_|refine ZV Y Y ?_|refine ZU Y Y Y Y ?_|refine ZB Y ?_|refine ZC ?_|refine QM Y Y Y Y ?_)
    refine ZGB (vx:=.lit [.int .u64 h]) (ys:=[.int .u64 h]) (bytes:=8) Y Y Y (by simp) (by decide) Y ?_
    repeat'(first|refine ZD ?_|refine ZG Y ?_|refine ZV Y Y ?_|refine ZB Y ?_|refine ZC ?_|refine Zh Y Y (by omega) ?_|refine JG Y Y Y Y (Ja _ (Nat.lt_succ_self _)) Y ?_|refine Z0 ?_|refine Z8 ?_)
    refine⟨(i+1,.ref A.length (G1.length+4) 0 0 1,G1++[.arr 1 0 [.int .u64 h]]),⟨rfl,?_⟩,⟨by simp only;omega,?_⟩,by simp only;omega⟩
    ·simp only[hnx];rfl
    ·simp only[hnx]
     exact .inr ⟨G1.length,0,rfl,by simp,List.getElem?_concat_length ..⟩
   ·have hj:=(List.getElem?_eq_some_iff.1 hg).1
    have hg2:∀b0 b1 b2 b3:Blk,(b0::b1::b2::b3::G1)[j+4]?=some (.arr 1 ver (W.map Zt)):=fun _ _ _ _=>hg
    unfold chL at *
    repeat'(first|refine QX (f:=Zt) Y Y q (fun _=>rfl) ?_|refine ZE ?_|refine ZD ?_|refine ZG Y ?_|refine ZB Y ?_|refine ZC ?_|refine QA Y Y ?_|(refine cm0 Y Y Y ?_ ?_<;>intro _<;>try omega)|refine ZQ Y ?_|refine Jo Y Y ?_|refine Jz Y Y hlk ?_|refine ZI ?_|refine ZL ?_)
    all_goals try first|contradiction|omega
    refine Zhf Y Y Y Y Y hpe ?_
    repeat'(first|refine ZD ?_|refine ZG Y ?_|refine ZV Y Y ?_|refine ZU Y Y Y Y ?_|refine ZB Y ?_|refine ZC ?_|refine QM Y Y Y Y ?_)
    refine ZAa (es:=W.map Zt) (ys:=[.int .u64 h]) Y Y (hg2 _ _ _ _) (by rw[List.length_map]) rfl rfl (by simp;omega) (by decide) ?_
    repeat'(first|refine ZD ?_|refine ZG Y ?_|refine ZV Y Y ?_|refine ZB Y ?_|refine ZC ?_|refine Zh Y Y (by omega) ?_|refine JG Y Y Y Y (Ja _ (Nat.lt_succ_self _)) Y ?_|refine Z0 ?_|refine Z8 ?_)
    refine⟨(i+1,.ref A.length (j+4) (ver+1) 0 (W.length+1),G1.set j (.arr 1 (ver+1) (W.map Zt++[.int .u64 h]))),⟨rfl,?_⟩,⟨by simp only;omega,?_⟩,by simp only;omega⟩
    ·simp only[hnx];rfl
    ·simp only[hnx]
     refine .inr ⟨j,ver+1,by simp,by simp,?_⟩
     rw[List.getElem?_set_self hj,List.map_append];rfl
 ·obtain rfl:i=dl.length:=by omega
  rw[List.take_length]at hD ⊢
  repeat'(first|refine ZE ?_|refine ZD ?_|refine ZB Y ?_|refine ZC ?_|(refine cm0 Y Y Y ?_ ?_<;>intro _<;>try omega)|refine ZH Y ?_|refine Zq ?_|refine Zb ?_|refine Za Y ?_|refine Zn ?_)
  all_goals try omega
  exact hQ G1 dv1 hD
def slH(l:List Nat):AV:=if l=[] then .nils else .lit (l.map Zt)
def ZBz(ro:Ro)(fresh:List Nat)(d:AV):AV:=.agg [.int .u64 ro.at_,.int .i64 ro.h,.int .i64 ro.m.b,.int .i64 ro.m.r,.int .i64 ro.m.l,.lit (fresh.map Zt),d]
def chZ:AV:=.agg [.int .u64 0,.int .i64 0,.int .i64 0,.int .i64 0,.int .i64 0,.nils,.nils]
theorem ZnW{b lv q:Nat}{fr:List Nat}(st:St)(hl:lv<b):ZY QD b st (ZBz ro fr (.ref lv ix ver q n))=some (ZBz ro fr (.ref lv ix ver q n),st):=by
 show (mapSt (keepN (ZY 5 b)) _ _).bind ZJO=_
 simp only[mapSt,keepN,Xq,jB,if_false,ZY,oS,if_pos hl,Y1,ZJO];rfl
theorem ZnX{L:List Blk}{fr d:List Nat}(hg:L[ix]?=some (.arr 1 ver (d.map Zt)))(hn:n=d.length):
 ZY QD A.length ⟨A,false,L⟩ (.tup [ZBz ro fr (.ref A.length ix ver 0 n),.int .i64 z])=some (.tup [ZBz ro fr (.lit (d.map Zt)),.int .i64 z],⟨A,false,L.set ix .dead⟩):=by
 subst hn
 have h1:=ZJD (n:=3) (A:=A) (s:=0) (m:=d.length) hg (by simp) (es':=d.map Zt) (by
  rw[List.drop_zero,List.take_of_length_le (by simp)]
  exact ZR5 (k:=.u64) (fun n:Nat=>(n:Int)) 2 0 _ d)
 show (mapSt (ZY 5 A.length) _ _).bind ZdU=_
 have h2:ZY 5 A.length ⟨A,false,L⟩ (ZBz ro fr (.ref A.length ix ver 0 d.length))=some (ZBz ro fr (.lit (d.map Zt)),⟨A,false,L.set ix .dead⟩):=by
  show (mapSt (keepN (ZY 4 A.length)) _ _).bind ZJO=_
  simp only[mapSt,keepN,Xq,jB,if_false,oS];simp only[ZY,oS]at h1 ⊢;simp only[h1,oS,Y1,ZJO];rfl
 simp only[mapSt,h2,oS];rfl
theorem ZSG{L L':List Blk}{x:Ex}{c4 c5 j4 w4 v4:Nat}{v:AV}{cs:LV}(hA:A=st.A++[(st.ro,st.L)])(hx:x=.norm\/x=.ret)(h4:J1 e c4=some (.ptr A.length j4 v4 0 0))(hg4:L[j4]?=some (.arr w4 v4 [v]))(hv:v=.agg cs)(hc:cs.length=7)(h5:J1 e c5=some (.int .i64 z))
 (hs:ZY QD A.length ⟨A,false,L⟩ (.tup [v,.int .i64 z])=some (.tup [w,.int .i64 z],⟨A,false,L'⟩)):JD false [.c c4 true 7,.s c5] (x,e,⟨A,false,L⟩)=some (.tup [w,.int .i64 z],st):=by
 refine ZEB (v:=.tup [v,.int .i64 z]) hA hx ?_ hs Y
 have h1:ZBQ ⟨A,false,L⟩ e (.c c4 true 7)=some v:=by
  subst hv;simp only[ZBQ,QL h4,loadP,St.get_cur,hg4,vis,ZEM,if_true,List.getElem?_cons_zero,oS,JU,AV.cells,List.drop_zero]
  rw[List.take_of_length_le (by omega)]
  simp[hc]
  rfl
 simp only[QW,ZD9,h1,oS];simp only[ZBQ,QL h5,oS,Option.map_some,ZGI]
def ZBN(N:ZJ)(rs:List Ro)(t:Tr):List Nat:=(rs.flatMap fun r=>ZKJ N r t).foldl Jr []
theorem AROk.lv{r:AR}(h:AROk r):∀l,Lv r.nodes l->l.length<=16384:=fun l hl=>h.few hl.1 hl.2
theorem AROk.nz{r:AR}(h:AROk r):∀o x,lk r.nodes o=some x->o≠0:=fun o x hx=>(h.hnd hx).2
theorem ZdP{N:ZJ}(hN:GoodN N)(hK:∀l,Lv N l->l.length<=16384){r:Ro}(hr:RtOk N r)(t:Tr):(ZKJ N r t).length<=16384:=by
 unfold ZKJ
 split
 ·simp
 ·rename_i h0
  obtain⟨x,x1,x2,x3,x4⟩:∃x,lk N r.at_=some x/\NdOk x/\x.h=r.h/\x.mea=r.m:=by
   rcases hr with rfl|w
   ·exact absurd Y h0
   ·exact w.2
  have:=hK _ (ZnT hN r.h r.at_ [] x x1 x3 ⟨by simp,by simp⟩)
  exact Nat.le_trans (List.length_filter_le ..) this
theorem ZnY{N:ZJ}(hN:GoodN N)(hK:∀l,Lv N l->l.length<=16384)(t:Tr):∀ {rs:List Ro},(∀r∈rs,RtOk N r)->(rs.flatMap fun r=>ZKJ N r t).length<=rs.length*16384:=by
 intro rs
 induction rs with
 | nil=>intro _;simp
 | cons r l ih =>
  intro h
  have h1:=ZdP hN hK (h r (by simp)) t
  have h2:=ih (fun z hz=>h z (List.mem_cons_of_mem _ hz))
  rw[List.flatMap_cons,lL,List.length_cons];omega
theorem DrOk.app{M:Nat}{G:List Blk}{dv:AV}{w:List Nat}(h:DrOk M G dv w)(T:List Blk):DrOk M (G++T) dv w:=by
 rcases h with h|⟨j,ver,h1,h2,h3⟩
 ·exact .inl h
 ·exact .inr ⟨j,ver,h1,h2,by rw[jL (List.getElem?_eq_some_iff.1 h3).1];exact h3⟩
theorem Zhg{N:ZJ}(hN:GoodN N)(hK:∀l,Lv N l->l.length<=16384)(hz:∀o x,lk N o=some x->o≠0){b:Nat}(hR:∀L,Rd ⟨A,false,L⟩ la (b+5) N){rs:List Ro}(hrs:∀r∈rs,RtOk N r)(hl:rs.length<=3)(hv:VE N t)(hb:t.bytes<=65536){b6:Blk}
 (hQ:∀G dv,DrOk A.length G dv (ZBN N rs t)->Rk (S Tb) k Q .norm [(0,.ptr la (b+5) 0 0 0),(6,.ptr A.length 0 0 0 0),(8,.ptr A.length 1 0 0 0),(10,.ptr A.length 2 0 0 0),(11,.map A.length 3),(29,.lit (rs.map Ro.av)),(30,.int .i64 rs.length),(31,.int .i64 rs.length),(32,.bool false)] ⟨A,false,chL b6 t dv (ZBN N rs t) G⟩) :
 Ru (S Tb) p_edit_change_21.loop (.blk 0::k) Q [(0,.ptr la (b+5) 0 0 0),(6,.ptr A.length 0 0 0 0),(8,.ptr A.length 1 0 0 0),(10,.ptr A.length 2 0 0 0),(11,.map A.length 3),(29,.lit (rs.map Ro.av)),(30,.int .i64 rs.length),(31,.int .i64 0)] ⟨A,false,chL b6 t .nils [] []⟩:=by
 refine Zy (α:=Nat × AV × List Blk) (fun p=>[(0,.ptr la (b+5) 0 0 0),(6,.ptr A.length 0 0 0 0),(8,.ptr A.length 1 0 0 0),(10,.ptr A.length 2 0 0 0),(11,.map A.length 3),(29,.lit (rs.map Ro.av)),(30,.int .i64 rs.length),(31,.int .i64 p.1)])
  (fun p=>⟨A,false,chL b6 t p.2.1 (ZBN N (rs.take p.1) t) p.2.2⟩) (fun p=>p.1<=rs.length/\DrOk A.length p.2.2 p.2.1 (ZBN N (rs.take p.1) t)) (fun p=>rs.length-p.1) (0,.nils,[]) rfl rfl ⟨Nat.zero_le _,.inl ⟨rfl,rfl⟩⟩ ?_
 rintro⟨i,dv,G⟩ ⟨hi,hD⟩
 simp only at hi hD ⊢
 rcases Nat.lt_or_ge i rs.length with hlt|hge
 ·obtain⟨ro,hro⟩:∃x,rs[i]?=some x:=⟨rs[i]'hlt,jE _⟩
  have q:0<=((i:Nat):Int)/\rs[((i:Nat):Int).toNat]?=some ro:=⟨by omega,by rw[show ((i:Nat):Int).toNat=i by omega];exact hro⟩
  have hrt:=hrs ro (jM hro)
  have hDp:=fun L=>ZlI hN hK hz (hR L) hrt hv hb
  have hdl:=ZdP hN hK hrt t
  have hfl:=ZnY hN hK t (rs:=rs.take i) (fun z hz=>hrs z (List.mem_of_mem_take hz))
  rw[List.length_take,Nat.min_eq_left hi]at hfl
  have hwl:=ZdO ((rs.take i).flatMap fun r=>ZKJ N r t) []
  change (ZBN N (rs.take i) t).length<=_ at hwl
  simp only[List.length_nil]at hwl
  have hnx:ZBN N (rs.take (i+1)) t=(ZKJ N ro t).foldl Jr (ZBN N (rs.take i) t):=by
   unfold ZBN;rw[ZZ hro,List.flatMap_append,List.foldl_append];simp
  have hin:=fun k Q hQ=>ZnV (A:=A) (b6:=b6) (t:=t) (dl:=ZKJ N ro t) (hD.app [.arr 5 0 [ro.av]]) (by omega) (v0:=.ptr la (b+5) 0 0 0) (v29:=.lit (rs.map Ro.av)) (v30:=.int .i64 rs.length) (v31:=.int .i64 i) (k:=k) (Q:=Q) hQ
  rw[<- hnx]at hin
  generalize ZKJ N ro t=dl at *
  generalize ZBN N (rs.take i) t=W at *
  have f13:∀b0 b1 b2 b3:Blk,(b0::b1::b2::b3::G++[Blk.arr 5 0 [ro.av]])[(b0::b1::b2::b3::G).length]?=some (.arr 5 0 [ro.av]):=fun _ _ _ _=>List.getElem?_concat_length ..
  obtain⟨ra,rh,rm⟩:=ro
  unfold chL Ro.av at *
  repeat'(first|refine hin _ _ (fun G' dv' hD'=>?_)|refine QX (f:=Ro.av) Y Y q (fun _=>rfl) ?_|refine YH Y ?_|refine ZE ?_|refine ZD ?_|refine ZG Y ?_|refine Zw Y Y ?_|refine ZB Y ?_|refine ZC ?_|refine Qv Y Y Y ?_|refine QA Y Y ?_|(refine cm0 Y Y Y ?_ ?_<;>intro _<;>try omega)|(refine cm0 Y Y Y ?_ ?_<;>intro _<;>try omega)|refine ZQ Y ?_|refine ZH Y ?_|refine Zh Y Y (by omega) ?_|refine Z1 Y Y Y ?_|refine YQ Y Y Y Y Y Y ?_|refine ZA Y Y (by first|rfl|(simp only[lE,lN,lC,Ze,ZW,ZX];first|done|rfl)) (hDp _) ?_|refine ZU Y Y Y (Zo _) ?_|refine ZI ?_|refine ZL ?_|refine Z0 ?_|refine Z8 ?_)
  all_goals try first|contradiction|omega
  exact⟨(i+1,dv',G'),⟨rfl,rfl⟩,⟨by simp only;omega,hD'⟩,by simp only;omega⟩
 ·obtain rfl:i=rs.length:=by omega
  rw[List.take_length]at hD ⊢
  repeat'(first|refine ZE ?_|refine ZD ?_|refine ZB Y ?_|refine ZC ?_|(refine cm0 Y Y Y ?_ ?_<;>intro _<;>try omega)|refine ZH Y ?_|refine Zq ?_|refine Zb ?_|refine Za Y ?_|refine Zn ?_)
  all_goals try omega
  exact hQ G dv hD
theorem ZnZ{b:Nat}{r:AR}(hA:Has st la b r)(ho:AROk r)(hg:GoodN r.nodes){rs:List Ro}(hrs:∀r'∈rs,RtOk r.nodes r')(hl:rs.length<=3)(hv:VE r.nodes t)(hb:t.bytes<=65536){mk:FuncId}
 (hmk:∀A L,A=st.ps->S Tb mk caps ⟨A,false,L⟩=some (.tup [t.av,.int .i64 0],⟨A,false,L⟩)) (hwk:ZX (Ze ([]++[]++caps))=some caps) (hn:nw t<=r.n) :
 S Tb ZEC [.ptr la (b+5) 0 0 0,.func (.func mk) [] caps,.lit (rs.map Ro.av)] st=some (.tup [ZBz (wrV t r).2.1 (wrV t r).2.2 (slH (ZBN r.nodes rs t)),.int .i64 0],Qg st la b (wrV t r).1):=by
 refine ZBe Y (fun A hA'=>?_)
 have hM:=fun L=>hmk A L hA'
 have hlp:=fun k Q hQ=>Zhg (A:=A) hg ho.lv ho.nz (fun L=>(hA.r.push hA' (ro:=false) (L:=L)).rd) hrs hl hv hb (b6:=.arr 7 0 [chZ]) (k:=k) (Q:=Q) hQ
 have hle:=hA.le
 have hWr:=fun L=>ZfY (hA.push hA' (ro:=false) (L:=L)) ho hg hv hb hn
 simp only[ZAy hA' hle]at hWr
 have hAl:A.length=((Qg st la b (wrV t r).1).ps).length:=by rw[hA'];simp[ZGA]
 generalize (wrV t r).2.1=ro at *
 generalize (wrV t r).2.2=fr at *
 obtain⟨A2,hA2⟩:∃A2,A2=(Qg st la b (wrV t r).1).ps:=⟨_,rfl⟩;rw[<- hA2]at hWr hAl;unfold chL at hlp
 unfold chZ at *
 repeat'(first|refine ZA Y Y hwk (hM _) ?_|refine hlp _ _ (fun G dv hD=>?_)|refine YH Y ?_|refine ZE ?_|refine ZD ?_|refine ZG Y ?_|refine Zw Y Y ?_|refine ZB Y ?_|refine ZC ?_|(refine cm0 Y Y Y ?_ ?_<;>intro _<;>try omega)|refine ZH Y ?_|refine Zx Y Y Y ?_|refine Zi Y Y Y ?_|refine Zv Y Y Y Y Y Y ?_|refine ZCN Y ?_|refine ZU Y Y Y (Zo _) ?_|refine Zv Y Y Y (QQ _ _ _) (Qw _ _) Y ?_|refine ZI ?_|refine ZL ?_)
 all_goals try contradiction
 obtain⟨ra,rh,rm⟩:=ro;unfold Ro.av at hWr
 rcases hD with⟨e,rfl⟩|⟨j,ver,rfl,hne,hgd⟩
 ·rw[e]
  repeat'(first|refine ZG Y ?_|refine ZV Y Y ?_|refine Zw Y Y ?_|refine ZA Y Y (by first|rfl|(simp only[lE,lN,lC,Ze,ZW,ZX];first|done|rfl)) (hWr _) ?_)
  rw[hAl]
  repeat'(first|refine ZE ?_|refine ZD ?_|refine ZG Y ?_|refine ZV Y Y ?_|refine ZU Y Y Y Y ?_|refine ZB Y ?_|refine ZC ?_|(refine cm0 Y Y Y ?_ ?_<;>intro _<;>try omega)|refine ZH Y ?_|refine JG Y Y Y Y Y Y ?_|refine ZI ?_|refine ZP ?_|refine ZO ?_)
  all_goals try contradiction
  exact ZSG (w:=ZBz ⟨ra,rh,rm⟩ fr .nils) hA2 (.inr Y) Y Y Y Y Y Y
 ·have hg3:∀b0 b1 b2 b3:Blk,(b0::b1::b2::b3::G)[j+4]?=some (.arr 1 ver ((ZBN r.nodes rs t).map Zt)):=fun _ _ _ _=>hgd
  unfold slH;rw[if_neg hne]
  generalize ZBN r.nodes rs t=dd at *
  repeat'(first|refine ZG Y ?_|refine ZV Y Y ?_|refine Zw Y Y ?_|refine ZA Y Y (by first|rfl|(simp only[lE,lN,lC,Ze,ZW,ZX];first|done|rfl)) (hWr _) ?_)
  rw[hAl]
  repeat'(first|refine JG Y Y Y Y (ZnW (ro:=⟨ra,rh,rm⟩) (fr:=fr) _ (Nat.lt_succ_self _)) Y ?_|refine ZE ?_|refine ZD ?_|refine ZG Y ?_|refine ZV Y Y ?_|refine ZU Y Y Y Y ?_|refine ZB Y ?_|refine ZC ?_|(refine cm0 Y Y Y ?_ ?_<;>intro _<;>try omega)|refine ZH Y ?_|refine JG Y Y Y Y Y Y ?_|refine ZI ?_|refine ZP ?_|refine ZO ?_)
  all_goals try contradiction
  exact ZSG (v:=ZBz ⟨ra,rh,rm⟩ fr (.ref A2.length (j+4) ver 0 dd.length)) (w:=ZBz ⟨ra,rh,rm⟩ fr (.lit (dd.map Zt))) hA2 (.inr Y) Y Y Y Y Y (ZnX (hg3 _ _ _ _) Y)
noncomputable def edV(N:ZJ)(ro:Ro)(a n:Int)(s:B8):Tr:=(ZGY N (Yx ro) a n s).own
structure EdOk(N:ZJ)(ro:Ro)(s0:B8)(a n:Int)(s:B8):Prop where
 rt:Rt N ro s0
 a0:0<=a
 n0:0<=n
 le:a+n<=s0.length
 b1:s0.length<=60000
 b2:s.length<=2000
theorem EdOk.ok{N:ZJ}(hN:GoodN N){n:Int}(h:EdOk N ro s0 a n s):
 VE N (edV N ro a n s)/\(edV N ro a n s).bytes=s0.length-n+s.length/\(edV N ro a n s).txt N=s0.take a.toNat++s++s0.drop (a+n).toNat:=by
 obtain⟨hk,htx⟩:=h.rt.keep;have hb:=(h.rt.b hN).1;have h1:=h.a0;have h2:=h.n0;have h3:=h.le;have h4:=h.b1;have h5:=h.b2
 have:=ZOg hN (s:=s) hk h1 h2 (by omega) (by omega) (by omega)
 refine⟨ZnD this.ve,?_,?_⟩
 ·show (Tr.own _).bytes=_;rw[ZCA,this.bytes,hb]
 ·show (Tr.own _).txt N=_;rw[Zpc,this.txt,htx]
theorem Zna{b:Nat}{N:ZJ}(hN:GoodN N)(hR:Rd st la (b+5) N){n:Int}(h:EdOk N ro s0 a n s):
 S Tb ZHj [.ptr la (b+5) 0 0 0,ro.av,.int .i64 a,.int .i64 n,.str s] st=some (.tup [(edV N ro a n s).av,.int .i64 0],st):=by
 refine QN Y (fun A hA=>?_)
 have hRA:=fun L=>hR.push hA (ro:=false) (L:=L)
 have hKp:=fun L=>ZVn (hRA L) h.rt.rt
 obtain⟨hk,htx⟩:=h.rt.keep;have hb:=(h.rt.b hN).1;have h1:=h.a0;have h2:=h.n0;have h3:=h.le;have h4:=h.b1;have h5:=h.b2
 have hRp:=fun L=>Zc9 hN (hRA L) hk (a:=a) (n:=n) (s:=s) h1 h2 (by omega) (by omega) (by omega)
 unfold edV
 generalize (ZGY N (Yx ro) a n s).own=t at *
 generalize Yx ro=kt at *
 obtain⟨ra,rh,rm⟩:=ro
 unfold Ro.av at *
 repeat'(first|refine ZA Y Y Zj9 (hRp _) ?_|refine ZE ?_|refine ZD ?_|refine ZG Y ?_|refine ZU Y Y Y Y ?_|refine Zw Y Y ?_|refine ZB Y ?_|refine ZC ?_|(refine cm0 Y Y Y ?_ ?_<;>intro _<;>try omega)|refine ZH Y ?_|refine Zi Y Y Y ?_|refine ZA Y Y (by first|rfl|(simp only[lE,lN,lC,Ze,ZW,ZX];first|done|rfl)) (hKp _) ?_|refine ZU Y Y Y (Zo _) ?_|refine Zv Y Y Y (QQ _ _ _) (Qw _ _) Y ?_|refine ZI ?_|refine ZP ?_|refine ZO ?_)
 all_goals try first|contradiction|omega
 exact ZD3 hA (.inr Y) Y Y Y Y
theorem Znb{b lv:Nat}{N:ZJ}(hN:GoodN N)(hR:Rd st la (b+5) N){n:Int}(h:EdOk N ro s0 a n s)
 (g0:st.get lv 0=some (.arr 1 0 [.ptr la (b+5) 0 0 0])) (g1:st.get lv 1=some (.arr 5 0 [ro.av])) (g2:st.get lv 2=some (.arr 1 0 [.int .i64 a])) (g3:st.get lv 3=some (.arr 1 0 [.int .i64 n])) (g4:st.get lv 4=some (.arr 1 0 [.str s])) :
 S Tb XM [.ptr lv 0 0 0 0,.ptr lv 1 0 0 0,.ptr lv 2 0 0 0,.ptr lv 3 0 0 0,.ptr lv 4 0 0 0] st=some (.tup [(edV N ro a n s).av,.int .i64 0],st):=by
 refine QN Y (fun A hA=>?_)
 have hPl:=fun L=>Zna hN (hR.push hA (ro:=false) (L:=L)) h
 have k0:=fun L=>ZS hA (ro:=false) (L:=L) g0
 have k1:=fun L=>ZS hA (ro:=false) (L:=L) g1
 have k2:=fun L=>ZS hA (ro:=false) (L:=L) g2
 have k3:=fun L=>ZS hA (ro:=false) (L:=L) g3
 have k4:=fun L=>ZS hA (ro:=false) (L:=L) g4
 generalize edV N ro a n s=t at *
 repeat'(first|refine QB Y (k0 _) Y Y ?_|refine QB Y (k1 _) Y (ZOw _) ?_|refine QB Y (k2 _) Y Y ?_|refine QB Y (k3 _) Y Y ?_|refine QB Y (k4 _) Y Y ?_|refine ZE ?_|refine ZD ?_|refine ZG Y ?_|refine Zw Y Y ?_|refine ZB Y ?_|refine ZC ?_|refine Zi Y Y Y ?_|refine ZA Y Y (by first|rfl|(simp only[lE,lN,lC,Ze,ZW,ZX];first|done|rfl)) (hPl _) ?_|refine Zv Y Y Y (QQ _ _ _) (Qw _ _) Y ?_|refine ZP ?_|refine ZO ?_)
 all_goals try contradiction
 exact ZD3 hA (.inr Y) Y Y Y Y
theorem Zi7{b:Nat}{r:AR}(hA:Has st la b r)(ho:AROk r)(hg:GoodN r.nodes){n:Int}(h:EdOk r.nodes ro s0 a n s)(hn:nw (edV r.nodes ro a n s)<=r.n):
 S Tb ZCO [.ptr la (b+5) 0 0 0,ro.av,.int .i64 a,.int .i64 n,.str s] st=some (.tup [ZBz (wrV (edV r.nodes ro a n s) r).2.1 (wrV (edV r.nodes ro a n s) r).2.2 (slH (ZBN r.nodes [ro] (edV r.nodes ro a n s))),.int .i64 0],Qg st la b (wrV (edV r.nodes ro a n s) r).1):=by
 refine ZBe Y (fun A hA'=>?_)
 have hle:=hA.le;obtain⟨hv,hvb,_⟩:=h.ok hg;have h1:=h.n0;have h4:=h.b1;have h5:=h.b2
 have hCh:=ZnZ (st:=⟨A,false,[.arr 1 0 [.ptr la (b+5) 0 0 0],.arr 5 0 [ro.av],.arr 1 0 [.int .i64 a],.arr 1 0 [.int .i64 n],.arr 1 0 [.str s],.arr 7 0 [chZ]]⟩) (hA.push hA') ho hg (rs:=[ro]) (fun z hz=>by rw[List.mem_singleton]at hz;rw[hz];exact h.rt.rt) (by simp) hv (by omega) (mk:=XM) (caps:=[.ptr A.length 0 0 0 0,.ptr A.length 1 0 0 0,.ptr A.length 2 0 0 0,.ptr A.length 3 0 0 0,.ptr A.length 4 0 0 0])
  (fun A2 L h2=>Znb hg ((hA.push hA').r.rd.push h2) h (ZS h2 (St.get_cur ..)) (ZS h2 (St.get_cur ..)) (ZS h2 (St.get_cur ..)) (ZS h2 (St.get_cur ..)) (ZS h2 (St.get_cur ..))) rfl hn
 rw[ZAy hA' hle]at hCh
 have hAl:A.length=((Qg st la b (wrV (edV r.nodes ro a n s) r).1).ps).length:=by rw[hA'];simp[ZGA]
 generalize (wrV (edV r.nodes ro a n s) r).2.1=r2 at *
 generalize (wrV (edV r.nodes ro a n s) r).2.2=fr at *
 generalize ZBN r.nodes [ro] (edV r.nodes ro a n s)=dd at *
 obtain⟨A2,hA2⟩:∃A2,A2=(Qg st la b (wrV (edV r.nodes ro a n s) r).1).ps:=⟨_,rfl⟩;rw[<- hA2]at hCh hAl;simp only[jC,List.map_nil]at hCh;obtain⟨x1,x2,x3⟩:=r2;unfold chZ at hCh;unfold Ro.av at hCh ⊢
 by_cases hd:dd=[]
 ·subst hd
  rw[show slH []=.nils from rfl]at hCh ⊢
  unfold ZBz at hCh
  repeat'(first|refine ZE ?_|refine ZD ?_|refine ZG Y ?_|refine ZU Y Y Y Y ?_|refine Zw Y Y ?_|refine ZB Y ?_|refine ZC ?_|refine XY Y Y ?_|refine Zi Y Y Y ?_|refine QM Y Y Y Y ?_|refine ZA Y Y Y (hCh) ?_)
  rw[hAl]
  repeat'(first|refine ZG Y ?_|refine ZB Y ?_|refine ZC ?_|refine Zv Y Y Y Y Y Y ?_|refine ZP ?_|refine ZO ?_)
  all_goals try contradiction
  exact ZSG (w:=ZBz ⟨x1,x2,x3⟩ fr .nils) hA2 (.inr Y) Y Y Y Y Y Y
 ·rw[show slH dd=.lit (dd.map Zt) from if_neg hd]at hCh ⊢
  unfold ZBz at hCh
  repeat'(first|refine ZE ?_|refine ZD ?_|refine ZG Y ?_|refine ZU Y Y Y Y ?_|refine Zw Y Y ?_|refine ZB Y ?_|refine ZC ?_|refine XY Y Y ?_|refine Zi Y Y Y ?_|refine QM Y Y Y Y ?_|refine ZA Y Y Y (hCh) ?_)
  rw[hAl]
  repeat'(first|refine ZG Y ?_|refine ZB Y ?_|refine ZC ?_|refine Zv Y Y Y Y Y Y ?_|refine ZP ?_|refine ZO ?_)
  all_goals try contradiction
  exact ZSG (w:=ZBz ⟨x1,x2,x3⟩ fr (.lit (dd.map Zt))) hA2 (.inr Y) Y Y Y Y Y Y
theorem ZDM(w:List Nat)(hl:w.length<9223372036854775808)(st:St):S Tb Qb [.lit (w.map Zt),.lit (w.map Zt)] st=some (.bool true,st):=by
 refine QN Y (fun A hA=>?_)
 repeat'(first|refine YH Y ?_|refine ZE ?_|refine ZD ?_|refine ZG Y ?_|refine ZB Y ?_|refine ZC ?_|(refine cm0 Y Y Y ?_ ?_<;>intro _<;>try omega)|refine ZH Y ?_|refine ZI ?_|refine ZL ?_)
 all_goals try contradiction
 refine Zy (α:=Nat) (fun i=>[(0,.lit (w.map Zt)),(1,.lit (w.map Zt)),(5,.int .i64 i)]) (fun i=>⟨A,false,[]⟩) (fun i=>i<=w.length) (fun i=>w.length-i) 0 Y Y (Nat.zero_le _) ?_
 intro i hi;replace hi:i<=w.length:=hi
 rcases Nat.lt_or_ge i w.length with hlt|hge
 ·obtain⟨k,hk⟩:∃k,w[i]?=some k:=⟨w[i]'hlt,jE _⟩
  have q:0<=((i:Nat):Int)/\w[((i:Nat):Int).toNat]?=some k:=⟨by omega,by rw[show ((i:Nat):Int).toNat=i by omega];exact hk⟩
  repeat'(first|refine YH Y ?_|refine QX (f:=Zt) Y Y q (fun _=>rfl) ?_|refine ZE ?_|refine ZD ?_|refine ZG Y ?_|refine ZB Y ?_|refine ZC ?_|refine QA Y Y ?_|(refine cm0 Y Y Y ?_ ?_<;>intro _<;>try omega)|refine ZQ Y ?_|refine ZH Y ?_|refine Zh Y Y (by omega) ?_|refine ZI ?_|refine ZL ?_|refine Z0 ?_|refine Z8 ?_)
  all_goals try first|contradiction|omega
  all_goals first|exact absurd Y ‹_›|exact⟨i+1,⟨rfl,rfl⟩,by omega,by omega⟩
 ·obtain rfl:i=w.length:=by omega
  repeat'(first|refine YH Y ?_|refine ZE ?_|refine ZD ?_|refine ZG Y ?_|refine ZB Y ?_|refine ZC ?_|(refine cm0 Y Y Y ?_ ?_<;>intro _<;>try omega)|refine ZH Y ?_|refine ZP ?_|refine Zq ?_|refine ZO ?_|refine Zb ?_|refine Za Y ?_|refine Zn ?_)
  all_goals try omega
  refine Zj hA (by simp) Y Y Y Y ?_
  rfl
structure Op where
 at_:Int
 num:Int
 text:B8
def Zrb(l:List Op):Prop:=∃s∈l,300<s.text.length
noncomputable instance (l:List Op):Decidable (Zrb l):=Classical.propDecidable _
def exU:B8:=[97,98,99,100,101,102,103,104,105,106,107,108,109,110,111,112,113]
theorem ZCB:Qx exU=.mk 0 1 .zero [] (some [J2 [97,98,99,100,101,102,103,104,105],J2 [106,107,108,109,110,111,112,113]]):=by
 rfl
noncomputable def exUR:AR:=(wrV (Qx exU) (JF 8 4)).1
theorem Znc:(wrV (Qx exU) (JF 8 4)).2.1=⟨65538,1,⟨17,17,0⟩⟩:=by
 rw[ZCB];rfl
theorem Znd:nw (Qx exU)=3:=by rw[ZCB];rfl
theorem Zrc:exUR.n=5:=by unfold exUR;rw[ZCB];rfl
theorem Zqz:nw (edV exUR.nodes ⟨65538,1,⟨17,17,0⟩⟩ 9 0 [120,121,122])<=5:=by
 unfold exUR;rw[ZCB]
 decide +kernel
def exURo:Ro:=⟨65538,1,⟨17,17,0⟩⟩
theorem exU_ok:AROk exUR/\GoodN exUR.nodes/\Rt exUR.nodes exURo exU:=by
 obtain⟨b1,b2,b3⟩:=ZAE ZOh (s:=exU) (by decide)
 have ho:=ZZ0 8 4 (by omega) (by omega)
 obtain⟨w1,w2⟩:=ZhY (r:=JF 8 4) (ZBy [] [] [] _) ho ZOh b1 (by rw[b3];decide) (by rw[Znd];decide)
 rw[show (JF 8 4).nodes=[] from rfl,b2,Znc]at w2
 exact⟨w1.ok,w1.good,w2⟩
theorem exU_edOk:EdOk exUR.nodes exURo exU 9 0 [120,121,122]:=⟨exU_ok.2.2,by decide,by decide,by decide,by decide,by decide⟩
theorem ZkC:nw (edV exUR.nodes exURo 9 0 [120,121,122])<=exUR.n:=by rw[Zrc];exact Zqz
theorem Zne{b:Nat}{r:AR}(hA:Has st la b r)(ho:AROk r)(hg:GoodN r.nodes)(h:EdOk r.nodes ro s0 a 0 s)(hn:nw (edV r.nodes ro a 0 s)<=r.n):
 S Tb Xf [.ptr la (b+5) 0 0 0,ro.av,.int .i64 a,.str s] st=some (.tup [ZBz (wrV (edV r.nodes ro a 0 s) r).2.1 (wrV (edV r.nodes ro a 0 s) r).2.2 (slH (ZBN r.nodes [ro] (edV r.nodes ro a 0 s))),.int .i64 0],Qg st la b (wrV (edV r.nodes ro a 0 s) r).1):=by
 refine ZBe Y (fun A hA'=>?_)
 have hle:=hA.le
 have hCh:=fun L=>Zi7 (hA.push hA' (ro:=false) (L:=L)) ho hg h hn
 simp only[ZAy hA' hle]at hCh
 have hAl:A.length=((Qg st la b (wrV (edV r.nodes ro a 0 s) r).1).ps).length:=by rw[hA'];simp[ZGA]
 generalize (wrV (edV r.nodes ro a 0 s) r).2.1=r2 at *
 generalize (wrV (edV r.nodes ro a 0 s) r).2.2=fr at *
 generalize ZBN r.nodes [ro] (edV r.nodes ro a 0 s)=dd at *
 obtain⟨A2,hA2⟩:∃A2,A2=(Qg st la b (wrV (edV r.nodes ro a 0 s) r).1).ps:=⟨_,rfl⟩;rw[<- hA2]at hCh hAl;obtain⟨x1,x2,x3⟩:=r2;unfold Ro.av at hCh ⊢
 by_cases hd:dd=[]
 ·subst hd
  rw[show slH []=.nils from rfl]at hCh ⊢
  unfold ZBz at hCh
  repeat'(first|refine ZE ?_|refine ZD ?_|refine ZG Y ?_|refine ZU Y Y Y Y ?_|refine Zw Y Y ?_|refine ZB Y ?_|refine ZC ?_|refine Zi Y Y Y ?_|refine ZA Y Y Y (hCh _) ?_)
  rw[hAl]
  repeat'(first|refine ZG Y ?_|refine ZB Y ?_|refine ZC ?_|refine Zv Y Y Y Y Y Y ?_|refine ZP ?_|refine ZO ?_)
  all_goals try contradiction
  exact ZSG (w:=ZBz ⟨x1,x2,x3⟩ fr .nils) hA2 (.inr Y) Y Y Y Y Y Y
 ·rw[show slH dd=.lit (dd.map Zt) from if_neg hd]at hCh ⊢
  unfold ZBz at hCh
  repeat'(first|refine ZE ?_|refine ZD ?_|refine ZG Y ?_|refine ZU Y Y Y Y ?_|refine Zw Y Y ?_|refine ZB Y ?_|refine ZC ?_|refine Zi Y Y Y ?_|refine ZA Y Y Y (hCh _) ?_)
  rw[hAl]
  repeat'(first|refine ZG Y ?_|refine ZB Y ?_|refine ZC ?_|refine Zv Y Y Y Y Y Y ?_|refine ZP ?_|refine ZO ?_)
  all_goals try contradiction
  exact ZSG (w:=ZBz ⟨x1,x2,x3⟩ fr (.lit (dd.map Zt))) hA2 (.inr Y) Y Y Y Y Y Y
def ZD4(texts:List B8)(ys:List Ed):Prop:=ZSn texts\/ZZ3 ys\/12<ys.length
noncomputable instance (texts:List B8) (ys:List Ed):Decidable (ZD4 texts ys):=Classical.propDecidable _
theorem Znf(texts:List B8)(ys:List Ed)(hb:texts.length<9223372036854775808)(hbs:∀s∈texts,s.length<9223372036854775808)(hy:ys.length<9223372036854775808)(hys:∀y∈ys,y.text.length<9223372036854775808)(st:St):
 S Tb Y8 [.lit (texts.map .str),.lit (ys.map Ed.av)] st=some (.bool (decide (ZD4 texts ys)),st):=by
 refine QN Y (fun A hA=>?_)
 have hLg:=fun st=>Zqp texts hb hbs st
 have hMn:=fun st=>ZnG ys hy hys st
 by_cases hl:ZSn texts
 ·rw[decide_eq_true (show ZD4 texts ys from .inl hl)]
  simp only[decide_eq_true hl]at hLg
  repeat'(first|refine ZE ?_|refine ZD ?_|refine ZG Y ?_|refine JZ Y Y ?_|refine Zr Y Y Y Y ?_|refine ZB Y ?_|refine ZC ?_|refine ZA Y Y Y (hLg _) ?_|refine ZP ?_|refine ZO ?_)
  all_goals try contradiction
  all_goals refine Zj hA (by simp) Y Y Y Y ?_
  all_goals rfl
 simp only[decide_eq_false hl]at hLg
 by_cases hm:ZZ3 ys
 ·rw[decide_eq_true (show ZD4 texts ys from .inr (.inl hm))]
  simp only[decide_eq_true hm]at hMn
  repeat'(first|refine ZE ?_|refine ZD ?_|refine ZG Y ?_|refine QK Y ?_|refine JZ Y Y ?_|refine Zr Y Y Y Y ?_|refine ZB Y ?_|refine ZC ?_|refine ZA Y Y Y (hLg _) ?_|refine ZA Y Y Y (hMn _) ?_|refine ZP ?_|refine ZO ?_)
  all_goals try contradiction
  all_goals refine Zj hA (by simp) Y Y Y Y ?_
  all_goals rfl
 simp only[decide_eq_false hm]at hMn
 by_cases h12:12<ys.length
 ·rw[decide_eq_true (show ZD4 texts ys from .inr (.inr h12))]
  repeat'(first|refine YH Y ?_|refine ZE ?_|refine ZD ?_|refine ZG Y ?_|refine QK Y ?_|refine Zr Y Y Y Y ?_|refine ZB Y ?_|refine ZC ?_|(refine cm0 Y Y Y ?_ ?_<;>intro _<;>try omega)|refine ZA Y Y Y (hLg _) ?_|refine ZA Y Y Y (hMn _) ?_|refine ZP ?_|refine ZO ?_)
  all_goals try first|contradiction|omega
  all_goals refine Zj hA (by simp) Y Y Y Y ?_
  all_goals rfl
 ·rw[decide_eq_false (show ¬ ZD4 texts ys from fun q=>q.elim hl fun q=>q.elim hm h12)]
  repeat'(first|refine YH Y ?_|refine ZE ?_|refine ZD ?_|refine ZG Y ?_|refine QK Y ?_|refine Zr Y Y Y Y ?_|refine ZB Y ?_|refine ZC ?_|(refine cm0 Y Y Y ?_ ?_<;>intro _<;>try omega)|refine ZA Y Y Y (hLg _) ?_|refine ZA Y Y Y (hMn _) ?_|refine ZP ?_|refine ZO ?_)
  all_goals try first|contradiction|omega
  all_goals refine Zj hA (by simp) Y Y Y Y ?_
  all_goals rfl
theorem Zi8(x n:Int)(h0:0<=n)(h1:n<4611686018427387904)(st:St):S Tb Jx [.int .i64 x,.int .i64 n] st=some (.int .i64 (JJ x n),st):=by
 refine QN Y (fun A hA=>?_)
 have hP:=fun st=>Zfe x n h0 h1 st
 repeat'(first|refine ZE ?_|refine ZD ?_|refine ZG Y ?_|refine ZB Y ?_|refine ZC ?_|refine ZA Y Y Y (hP _) ?_|refine ZP ?_|refine ZO ?_)
 refine Zj hA (by simp) Y Y Y Y ?_
 rfl
section
variable {N:ZJ}{P:Nat->Prop}
end
def hOf(r:AR)(s:Nat):Nat:=((r.gens[s]?).getD 0).toNat*65536+s
def Jy(r:AR):List Nat:=(ZAb r.states 1).map (hOf r)
theorem ZLi{l:List Int}{s:Nat}(h:s∈ZAb l z):s<l.length/\l[s]?=some z:=by
 unfold ZAb YP at h;rw[List.mem_filter,List.mem_range]at h
 exact⟨h.1,by simpa using h.2⟩
theorem Zi9{lv b:Nat}{r:AR}(h:HasR st lv b r)(ho:AROk r):S Tb YT [.ptr lv (b+3) 0 0 0] st=some (.lit ((Jy r).map Zt),st):=by
 refine QN Y (fun A hA=>?_)
 have g3:=fun L=>ZS hA (ro:=false) (L:=L) h.h3
 have g2:=fun L=>ZS hA (ro:=false) (L:=L) h.h2
 unfold AR.b3 at g3;unfold AR.b2 at g2
 have hw2:∀L,wIs 1 0 (St.get ⟨A,false,L⟩ lv (b+2))=true:=fun L=>by rw[g2];rfl
 have hsl:=fun L=>Zjv (h.push hA (ro:=false) (L:=L)) ho.n16 1
 have hmem:=fun s hs=>ZLi (l:=r.states) (z:=1) (s:=s) hs
 have hlen:(ZAb r.states 1).length<=16384:=by have:=ZIw r.states 1 r.states.length;have:=ho.n16;unfold ZAb;omega
 have hn16:=ho.n16;have hgl:=ho.gl;unfold Jy
 generalize ZAb r.states 1=l at *
 repeat'(first|refine YH Y ?_|refine ZE ?_|refine ZD ?_|refine ZG Y ?_|refine ZB Y ?_|refine ZC ?_|refine ZAK Y ?_|refine ZA Y Y Y (hsl _) ?_|refine ZL ?_)
 refine Zy (α:=Nat) (fun i=>[(0,.ptr lv (b+3) 0 0 0),(3,.ref A.length 0 i 0 i),(9,.lit (l.map ZSm)),(10,.int .i64 l.length),(11,.int .i64 i)]) (fun i=>⟨A,false,[.arr 1 i (((l.take i).map (hOf r)).map Zt)]⟩) (fun i=>i<=l.length) (fun i=>l.length-i) 0 Y Y (Nat.zero_le _) ?_
 intro i hi;replace hi:i<=l.length:=hi
 rcases Nat.lt_or_ge i l.length with hlt|hge
 ·obtain⟨s,hs⟩:∃x,l[i]?=some x:=⟨l[i]'hlt,by simp[hlt]⟩
  obtain⟨m1,m2⟩:=hmem s (jM hs);obtain⟨g,g1',g2',g3'⟩:=ho.gen s m1
  have q:0<=((i:Nat):Int)/\l[((i:Nat):Int).toNat]?=some s:=⟨by omega,by rw[show ((i:Nat):Int).toNat=i by omega];exact hs⟩
  have q1:(r.gens.map (.int .u64))[0+((s:Nat):Int).toNat]?=some (AV.int .u64 g):=by
   rw[show 0+((s:Nat):Int).toNat=s by omega,jG,g1'];rfl
  have hMk:=fun st=>Zjl s g (by omega) ⟨by omega,by have:=ho.most;omega⟩ st
  have hl2:(((l.take i).map (hOf r)).map Zt).length+[AV.int .u64 ((g*65536+s:Nat):Int)].length<4294967296:=by simp;omega
  have hl3:i=(((l.take i).map (hOf r)).map Zt).length:=by simp;omega
  have hlt2:((s:Nat):Int)<r.gens.length:=by omega
  repeat'(first|refine QX (f:=ZSm) Y Y q (fun _=>rfl) ?_|refine QB Y (g3 _) Y Y ?_|refine ZBT Y Y (by omega) (hw2 _) ?_|refine QB Y (g2 _) q1 Y ?_|refine ZAa Y Y Y hl3 Y Y hl2 (by decide) ?_|refine ZE ?_|refine ZD ?_|refine ZG Y ?_|refine ZV Y Y ?_|refine Zw Y Y ?_|refine ZB Y ?_|refine ZC ?_|refine Z7 Y Y ?_|refine QA Y Y ?_|(refine cm0 Y Y Y ?_ ?_<;>intro _<;>try omega)|refine ZQ Y ?_|refine Zh Y Y (by omega) ?_|refine QM Y Y Y Y ?_|refine ZA Y Y Y (hMk _) ?_|refine ZI ?_|refine ZL ?_|refine Z0 ?_|refine Z8 ?_)
  all_goals try first|contradiction|omega
  refine⟨i+1,⟨?_,?_⟩,by omega,by omega⟩
  ·rfl
  ·have e:hOf r s=g*65536+s:=by unfold hOf;rw[g1'];simp
   rw[List.take_add_one,hs,List.map_append,List.map_append,<- e];rfl
 ·obtain rfl:i=l.length:=by omega
  repeat'(first|refine ZE ?_|refine ZD ?_|refine ZG Y ?_|refine ZB Y ?_|refine ZC ?_|(refine cm0 Y Y Y ?_ ?_<;>intro _<;>try omega)|refine ZH Y ?_|refine ZP ?_|refine Zq ?_|refine ZO ?_|refine Zb ?_|refine Za Y ?_|refine Zn ?_)
  all_goals try omega
  refine ZDr (es:=(l.map (hOf r)).map Zt) hA (.inr Y) Y (by rw[List.take_length];rfl) (by simp) (by intro v hv;obtain⟨x,_,rfl⟩:=List.mem_map.1 hv;rfl) ?_
  rfl
theorem ZjA{lv b:Nat}{r:AR}(h:HasR st lv b r)(ho:AROk r):S Tb Yu [.ptr lv (b+5) 0 0 0] st=some (.lit ((Jy r).map Zt),st):=by
 refine QN Y (fun A hA=>?_)
 have g5:=fun L=>ZS hA (ro:=false) (L:=L) h.h5
 unfold AR.b5 at g5
 have hF:=fun L=>Zi9 (h.push hA (ro:=false) (L:=L)) ho
 repeat'(first|refine QB Y (g5 _) Y Y ?_|refine ZE ?_|refine ZD ?_|refine ZG Y ?_|refine ZV Y Y ?_|refine ZB Y ?_|refine ZC ?_|refine Z7 Y Y ?_|refine ZH Y ?_|refine JN Y Y Y Y ?_|refine ZA Y Y Y (hF _) ?_|refine ZI ?_|refine ZP ?_|refine ZO ?_)
 all_goals try contradiction
 refine Zj hA (by simp) Y Y Y Y ?_
 rfl
theorem ZCC{N:ZJ}(hN:GoodN N)(hx:RtOk N x):∀o∈Zm N x,∃y,lk N o=some y:=by
 intro o ho;unfold Zm at ho
 split at ho
 ·simp at ho
 ·rename_i h0
  obtain⟨y,x1,x2,x3,x4⟩:∃y,lk N x.at_=some y/\NdOk y/\y.h=x.h/\y.mea=x.m:=by
   rcases hx with rfl|w
   ·exact absurd Y h0
   ·exact w.2
  obtain⟨w,w1,_⟩:=Zpk hN x.h x.at_ y x1 x3 o ho;exact⟨w,w1⟩
theorem onceV_mem{v:List Nat}{x:Nat}:x∈Z6 v↔x∈v:=(Ym v).2.1 x
def ZOz(N:ZJ)(x y:Ro):List (Nat × Int):=Ju (Ju [] (Z6 (Zm N x))) (Z6 (Zm N y))
theorem ZLj(N:ZJ)(x y:Ro):((ZOz N x y).map Prod.fst).Nodup:=(XS _ _ (XS _ [] (by simp)).1).1
theorem cnt2_mem{N:ZJ}{y:Ro}:o∈(ZOz N x y).map Prod.fst↔o∈Z6 (Zm N x)\/o∈Z6 (Zm N y):=by
 unfold ZOz
 rw[(XS _ _ (XS _ [] (by simp)).1).2,(XS _ [] (by simp)).2]
 simp
theorem ZD5{o:Nat}:∀ {l:List Nat},l.Nodup->l.count o=if o∈l then 1 else 0
 | [],_=>by simp
 | a::l,h=>by
  rw[List.nodup_cons]at h;rw[List.count_cons,ZD5 h.2]
  by_cases e:a=o
  ·subst e;simp[h.1]
  ·have:¬ o=a:=fun q=>e q.symm
   simp[e,this]
theorem YF(v:List Nat):(Z6 v).Nodup:=(Ym v).1
theorem Zng(N:ZJ)(x y:Ro)(o:Nat):Q1 o (ZOz N x y)=(if o∈Z6 (Zm N x) then 1 else 0)+(if o∈Z6 (Zm N y) then 1 else 0):=by
 unfold ZOz;rw[ZAG,ZAG,ZD5 (YF _),ZD5 (YF _)]
 show (0:Int)+_+_=_
 split<;>split<;>rfl
theorem ZA2{m:List Nat}(h1:l.Nodup)(h2:m.Nodup)(h:∀x,x∈l↔x∈m):l.Perm m:=(List.perm_ext_iff_of_nodup h1 h2).2 h
theorem Zpl(hl:∀x∈l,x<18446744073709551616):(l.map toH).map Fin.val=l:=by
 rw[List.map_map]
 conv=>rhs;rw[<- List.map_id l]
 refine List.map_congr_left fun x hx=>?_
 show x % 18446744073709551616=x
 have:=hl x hx
 omega
theorem ZJN(hl:∀x∈l,x<18446744073709551616):(ZhV l).Perm l:=by
 have h:=(List.mergeSort_perm (l.map toH) leH).map Fin.val;rw[Zpl hl]at h;exact h
theorem ZSo(l:List Nat):(ZhV l).Pairwise fun a b=>a % 65536<=b % 65536:=by
 unfold ZhV;rw[List.pairwise_map]
 refine (ZI1 _).imp fun {a b} h=>?_
 rw[ZVr]at h;omega
def ZGG(N:ZJ)(x y:Ro):List Nat:=ZhV (ZJv (fun n=>decide (n=2)) (ZOz N x y))
theorem ZlJ{N:ZJ}{y:Ro}:o∈ZJv (fun n=>decide (n=2)) (ZOz N x y)↔o∈Z6 (Zm N x)/\o∈Z6 (Zm N y):=by
 rw[ZhU (ZLj N x y),cnt2_mem,Zng,decide_eq_true_eq]
 by_cases h1:o∈Z6 (Zm N x)<;>by_cases h2:o∈Z6 (Zm N y)<;>simp[h1,h2]
def ZO0(N:ZJ):Prop:=∀o x,lk N o=some x->o<18446744073709551616
theorem AROk.h64{r:AR}(h:AROk r):ZO0 r.nodes:=fun o x hx=>by
 obtain⟨s,g,e,h1,h2,h3⟩:=h.key o x hx;obtain⟨g',k1,k2,k3⟩:=h.gen s h1;rw[h3]at k1
 have:=Option.some.inj k1
 have:=h.most
 have:=h.n16
 omega
theorem ZZ7{N:ZJ}(hN:GoodN N)(h6:ZO0 N)(hx:RtOk N x)(ho:o∈Z6 (Zm N x)):o<18446744073709551616:=by
 obtain⟨y,hy⟩:=ZCC hN hx o (onceV_mem.1 ho);exact h6 o y hy
theorem ZkD{N:ZJ}(hN:GoodN N)(h6:ZO0 N){y:Ro}(hx:RtOk N x)(hy:RtOk N y):∀q∈ZOz N x y,q.1<18446744073709551616:=fun q hq=>by
 rcases cnt2_mem.1 (List.mem_map.2 ⟨q,hq,rfl⟩) with h|h
 ·exact ZZ7 hN h6 hx h
 ·exact ZZ7 hN h6 hy h
theorem ZI2{N:ZJ}{p:Int->Bool}{c:List (Nat × Int)}(h:∀q∈c,q.1<18446744073709551616):∀o∈ZJv p c,o<18446744073709551616:=fun o ho=>by
 unfold ZJv at ho;obtain⟨q,hq,rfl⟩:=List.mem_map.1 ho;exact h q (List.mem_filter.1 hq).1
theorem Zhi{N:ZJ}(hN:GoodN N)(h6:ZO0 N){y:Ro}(hx:RtOk N x)(hy:RtOk N y):(ZGG N x y).Perm ((Z6 (Zm N x)).filter fun o=>decide (o∈Z6 (Zm N y))):=by
 refine (ZJN (ZI2 (N:=N) (ZkD hN h6 hx hy))).trans (ZA2 (ZGF (ZLj N x y)) ((YF _).filter _) fun o=>?_)
 rw[ZlJ,List.mem_filter,decide_eq_true_eq]
theorem Zpm{lv:Nat}{es:List (AV × AV)}{ks:List H64}(h8:QAbs.look e 8=.map lv ix)(hg:st.get lv ix=some (.map es))(hs:ZZx (fun n=>decide (n=2)) es=some ks)(hn:ks.Nodup)(hl:es.length<1000000000):
 ZhS e st=some (.ret,[(6,.lit ((srtH ks).map hAV)),(7,.int .i64 0)],st):=by
 unfold ZhS;simp only[h8,hg,ZBi,oS,hs];rw[if_pos ⟨hn,hl⟩]
theorem Znh{N:ZJ}(hN:GoodN N){y:Ro}(hx:RtOk N x)(hy:RtOk N y):(Y0 (ZOz N x y)).length<1000000000:=by
 have lx:=(Ym (Zm N x)).2.2;have ly:=(Ym (Zm N y)).2.2;have mx:=Xz hN hx;have my:=Xz hN hy
 have k1:=ZfZ (Z6 (Zm N x)) [] (by simp)
 have k2:=ZfZ (Z6 (Zm N y)) _ k1.1
 have:=k1.2
 have:=k2.2
 unfold ZOz
 simp only[Y0,List.length_map,List.length_nil]at *
 omega
theorem Zni{b:Nat}{N:ZJ}(hN:GoodN N)(h6:ZO0 N)(hR:Rd st la (b+5) N){y:Ro}(hx:RtOk N x)(hy:RtOk N y):
 S TW Y9 [.ptr la (b+5) 0 0 0,x.av,y.av] st=some (.tup [.lit ((ZGG N x y).map Zt),.int .i64 0],st):=by
 refine s_pr (X:=ZhS) (pre:=pS1) (rs:=rsV) Y (fun A hA=>?_)
 have hC:=Zm8 (A:=A) (X:=.arr 5 0 [x.av]) (Y':=.arr 5 0 [y.av]) hN (fun L=>hR.push hA (ro:=false) (L:=L)) hx hy
 have hlen:=Znh hN hx hy;have h64:=ZkD hN h6 hx hy
 have hs:=Zfc (fun n=>decide (n=2)) (ZOz N x y) h64
 have hnd:=Zj7 (ZI2 (N:=N) h64) (ZGF (p:=fun n=>decide (n=2)) (ZLj N x y))
 have he:(srtH ((ZJv (fun n=>decide (n=2)) (ZOz N x y)).map toH)).map hAV=(ZGG N x y).map Zt:=by rw[Zj6];rfl
 change S T3 ZAL _ _=some (_,⟨A,false,[_,_,_,_,.map (Y0 (ZOz N x y)),_,_,_,_]⟩) at hC
 generalize ZOz N x y=c at *
 rw[<- he]
 unfold Ro.av at *
 repeat'(first|refine ZE ?_|refine ZD ?_|refine ZG Y ?_|refine ZU Y Y Y Y ?_|refine Zw Y Y ?_|refine ZB Y ?_|refine ZC ?_|(refine cm0 Y Y Y ?_ ?_<;>intro _<;>try omega)|refine ZH Y ?_|refine Zi Y Y Y ?_|refine ZA Y Y Y (hC) ?_|refine ZI ?_|refine ZO ?_)
 all_goals try contradiction
 refine .inr ⟨rfl,_,_,_,Zpm Y (by simp only[St.get,if_true];rfl) hs hnd hlen,?_⟩
 refine Zj hA (by simp) Y Y Y Y ?_
 rfl
end Go.Q15
namespace Go.Q15
open Go Go.QAbs
open Go.ChangeMaps (setBlock)
variable {w:AV}{e:Env}{f g:FuncId}{a z:Int}{A:List (Bool × List Blk)}{args caps:LV}{k:List Fr}{l:List Nat}{s s0:B8}{d i ix la lm mx n o ver:Nat}{v:Opd}{O:Orc}{ro x:Ro}{st:St}{t:Tr}{Q:YD}
noncomputable def cLe:Code:=Proofs.Tryz.f50.body.getD .skip
noncomputable def oLe(i j:Nat):Oper:=((ZKI cLe).getD i #[]).getD j default
noncomputable def xLeB:Code:=.block 1 (.seq (.region 4 #[oLe 4 0,oLe 4 1,oLe 4 2,oLe 4 3,oLe 4 4] false) (.seq (.region 5 #[oLe 5 0,oLe 5 1,oLe 5 2] false) (.cond (.tmp 17) (.region 6 #[oLe 6 0,oLe 6 1,oLe 6 2,oLe 6 3,oLe 6 4] false) .skip)))
noncomputable def xLe:Code:=.seq (.region 1 #[oLe 1 0] false) (.seq (.seq (.region 2 #[oLe 2 0,oLe 2 1] false) (.block 0 (.loop (.seq (.region 3 #[oLe 3 0,oLe 3 1] false) (.seq (.cond (.tmp 11) .skip (.exit 0)) xLeB))))) (.seq (.region 7 #[oLe 7 0,oLe 7 1,oLe 7 2] false) .ret))
theorem oLe_1_0:OpIs (oLe 1 0) (.assign (.const (.slice none 0 0))) 5:=⟨by kernel_rfl,by kernel_rfl,by kernel_rfl⟩
theorem oLe_2_0:OpIs (oLe 2 0) (.move (.tmp 0)) 8:=⟨by kernel_rfl,by kernel_rfl,by kernel_rfl⟩
theorem oLe_2_1:OpIs (oLe 2 1) (.range 94 (.tmp 8)) 9:=⟨by kernel_rfl,by kernel_rfl,by kernel_rfl⟩
theorem oLe_3_0:OpIs (oLe 3 0) (.next (.tmp 9) false) 10:=⟨by kernel_rfl,by kernel_rfl,by kernel_rfl⟩
theorem oLe_3_1:OpIs (oLe 3 1) (.extract (.tmp 10) 0) 11:=⟨by kernel_rfl,by kernel_rfl,by kernel_rfl⟩
theorem oLe_4_0:OpIs (oLe 4 0) (.entry (.tmp 9)) 12:=⟨by kernel_rfl,by kernel_rfl,by kernel_rfl⟩
theorem oLe_4_1:OpIs (oLe 4 1) (.extract (.tmp 12) 0) 13:=⟨by kernel_rfl,by kernel_rfl,by kernel_rfl⟩
theorem oLe_4_2:OpIs (oLe 4 2) (.extract (.tmp 12) 1) 14:=⟨by kernel_rfl,by kernel_rfl,by kernel_rfl⟩
theorem oLe_4_3:OpIs (oLe 4 3) (.assign (.tmp 13)) 6:=⟨by kernel_rfl,by kernel_rfl,by kernel_rfl⟩
theorem oLe_4_4:OpIs (oLe 4 4) (.assign (.tmp 14)) 7:=⟨by kernel_rfl,by kernel_rfl,by kernel_rfl⟩
theorem oLe_5_0:OpIs (oLe 5 0) (.move (.tmp 7)) 15:=⟨by kernel_rfl,by kernel_rfl,by kernel_rfl⟩
theorem oLe_5_1:OpIs (oLe 5 1) (.move (.tmp 1)) 16:=⟨by kernel_rfl,by kernel_rfl,by kernel_rfl⟩
theorem oLe_5_2:OpIs (oLe 5 2) (.binOp .geq 3 (.tmp 15) (.tmp 16) 3) 17:=⟨by kernel_rfl,by kernel_rfl,by kernel_rfl⟩
theorem oLe_6_0:OpIs (oLe 6 0) (.move (.tmp 5)) 18:=⟨by kernel_rfl,by kernel_rfl,by kernel_rfl⟩
theorem oLe_6_1:OpIs (oLe 6 1) (.move (.tmp 6)) 19:=⟨by kernel_rfl,by kernel_rfl,by kernel_rfl⟩
theorem oLe_6_2:OpIs (oLe 6 2) (.buildSlice 37 1 #[(0,.tmp 19)]) 20:=⟨by kernel_rfl,by kernel_rfl,by kernel_rfl⟩
theorem oLe_6_3:OpIs (oLe 6 3) (.call { callee:=.builtin .append,args:=#[.tmp 18,.tmp 20],argTypes:=#[37,37] }) 21:=⟨by kernel_rfl,by kernel_rfl,by kernel_rfl⟩
theorem oLe_6_4:OpIs (oLe 6 4) (.assign (.tmp 21)) 5:=⟨by kernel_rfl,by kernel_rfl,by kernel_rfl⟩
theorem oLe_7_0:OpIs (oLe 7 0) (.move (.tmp 5)) 22:=⟨by kernel_rfl,by kernel_rfl,by kernel_rfl⟩
theorem oLe_7_1:OpIs (oLe 7 1) (.call { callee:=.value (.func 45),args:=#[.tmp 22],argTypes:=#[37] }) 23:=⟨by kernel_rfl,by kernel_rfl,by kernel_rfl⟩
theorem oLe_7_2:OpIs (oLe 7 2) (.assign (.tmp 23)) 4:=⟨by kernel_rfl,by kernel_rfl,by kernel_rfl⟩
attribute [irreducible] oLe
def Zhj:Run:=fun e st=>match QAbs.look e 0,QAbs.look e 1 with
 | .map lv ix,.int .i64 n0=>(ZBi (st.get lv ix)).bind fun es=>(ZZx (fun n=>decide (n0<=n)) es).bind fun ks=>if ks.Nodup/\es.length<1000000000 then some (.ret,[(4,.lit ((srtH ks).map hAV))],st) else none
 | _,_=>none
structure ILe(n0:Int)(p:Int->Bool)(W:World)(a:Act)(b clock:Nat)(en:Array MapEntry)(seen:Array Nat)(a':Act)(W':World):Prop where
 it:Itr W' b W.heap.size clock en seen
 jk:Jk W.heap.size W W'
 sz:a'.tmps.size=a.tmps.size
 df:a'.defers=a.defers
 ev:a'.eval (.tmp 9)=.pointer (some ⟨W.heap.size,0,none⟩)
 big:W.heap.size+1<=W'.heap.size
 n0:a'.eval (.tmp 1)=.int .i64 n0
 out:∃ks:List H64,W'.ownsRow (W.heap.size+1) 32 1 (a'.eval (.tmp 5)) ks.length (ks.map encH)/\(a'.eval (.tmp 5)=.slice none 0 0↔ks=[])/\(ks++(Yy en seen).filterMap (ZSE p)).Perm (en.toList.filterMap (ZSE p))
theorem Zq0{T:Tab}{W0:World}{B0:Bse}:CodeOk none Proofs.Tryz.prog (S T) 24 W0 B0 xLe Zhj:=by
 intro e st ρ W a0 r Q hx hr he hn hQ;unfold Zhj at hx
 split at hx
 case h_2=>simp at hx
 rename_i lv ix n0 hl hl1
 simp only[oB]at hx;obtain⟨es,hes,ks0,hks,hx⟩:=hx
 split at hx
 case isFalse=>simp at hx
 rename_i hcnd
 obtain⟨hnd,hlen⟩:=hcnd;simp only[oJ]at hx;subst hx;have hg:=ZAI hes;have h1n:=he 1;rw[hl1]at h1n;have hevn:a0.eval (.tmp 1)=.int .i64 n0:=Jf h1n;have hm:=he 0;rw[hl]at hm;generalize hm8:a0.tmps.getD 0 Go.undef=m8 at hm
 have hevm:a0.eval (.tmp 0)=m8:=by rw[<- hm8];rfl
 cases hm with
 | map hp =>
 obtain⟨p1,p2,r0,rfl,p3⟩:=hp
 have:=p3 es hg;subst this
 obtain⟨en,clock,h1,h2,hf⟩:=(hr.map lv ix es hg).ent;obtain⟨hsel,hall⟩:=Zfb h2 hks
 have hsz:en.toList.length<1000000000:=by have:=h2.1;omega
 unfold xLe;refine wpIn_seq (wpIn_region ?_)
 show wpOpsIn (fen none) 0 _ #[oLe 1 0] _ [0] a0 W
 rw[wpOpsIn_cons]
 refine Qi oLe_1_0 Y (by simp) (QT (x:=.const (.slice none 0 0)) (.inr oLe_1_0.op)) ?_
 show Code.wpIn _ _ _ _ _ _ _
 generalize ha:a0.put (some 5) (a0.eval (.const (.slice none 0 0)))=a
 have sza:a.tmps.size=a0.tmps.size:=by rw[<- ha];simp[Act.put]
 have dfa:a.defers=a0.defers:=by rw[<- ha];rfl
 have hev8:a.eval (.tmp 0)=.map (some (ρ lv ix).b):=by rw[<- ha,Act.put_other (by decide)];exact hevm
 have hevn1:a.eval (.tmp 1)=.int .i64 n0:=by rw[<- ha,Act.put_other (by decide)];exact hevn
 have hev10:a.eval (.tmp 5)=.slice none 0 0:=by rw[<- ha];exact Act.put_look (by omega)
 clear ha;refine wpIn_seq (wpIn_seq (wpIn_region ?_))
 show wpOpsIn (fen none) 0 _ #[oLe 2 0,oLe 2 1] _ [0,1] a W
 rw[wpOpsIn_cons]
 refine Qi oLe_2_0 Y (by simp) (QT (x:=.tmp 0) (.inl oLe_2_0.op)) ?_
 rw[wpOpsIn_cons,hev8]
 refine Qi oLe_2_1 Y (by simp) (ZIz (m:=.tmp 8) (t:=94) oLe_2_1.op (show Proofs.Tryz.prog.underlying 94=some (TypeDesc.map 32 3) by kernel_rfl) (Act.put_look (by omega)) h1) ?_
 show Code.wpIn _ _ _ _ _ _ _
 have hjk0:Jk W.heap.size W (W.alloc (.mapIter (some (ρ lv ix).b) clock #[] clock)):=by
  exact⟨rfl,rfl,rfl,by simp,fun i hi _=>Go.RowKit.Below.heap_alloc _ _ _ hi,.inl (Nat.le_refl _)⟩
 refine ZLg (o3:=oLe 3 0) (o4:=oLe 3 1) (it:=.tmp 9) (nx:=10) (ok:=11) hf oLe_3_0.op oLe_3_0.gd oLe_3_0.dst oLe_3_1.op oLe_3_1.gd oLe_3_1.dst
  (ILe n0 (fun n=>decide (n0<=n)) W a (ρ lv ix).b clock en) (fun seen a' W' h=>⟨h.ev,by have:=h.sz;omega,by have:=h.sz;omega,h.it⟩) ?_ ?_ ?_
 ·-- behind the loop
  intro seen a' W' h hl0;obtain⟨ks,hown,hnil,hperm⟩:=h.out;rw[hl0,List.filterMap_nil,lN,hsel]at hperm;have hsz':=h.sz
  show Code.wpIn _ _ _ _ _ _ _
  generalize ha1:(a'.put (some 10) (.tuple #[.bool false])).put (some 11) (.bool false)=a1
  have s1:a1.tmps.size=a0.tmps.size:=by rw[<- ha1];simpa [Act.put,sza] using hsz'
  have d1:a1.defers=a0.defers:=by rw[<- ha1];exact h.df.trans dfa
  have e10:a1.eval (.tmp 5)=a'.eval (.tmp 5):=by rw[<- ha1,Act.put_other (by decide),Act.put_other (by decide)]
  generalize a'.eval (.tmp 5)=vo at *
  refine wpIn_seq (wpIn_region ?_)
  show wpOpsIn (fen none) 0 _ #[oLe 7 0,oLe 7 1,oLe 7 2] _ [0,1,2] a1 W'
  rw[wpOpsIn_cons]
  refine Qi oLe_7_0 Y (by simp) (QT (x:=.tmp 5) (.inl oLe_7_0.op)) ?_
  rw[wpOpsIn_cons,e10]
  have hz:(a1.put (some 22) vo).eval (.tmp 22)=vo:=Act.put_look (by omega)
  have hc:Go.Calls Proofs.Tryz.prog 45 #[vo] W' fun e W2=>∃x,e=.returned x/\(Go.RowKit.Below W'.heap.size W' W2/\QAbs.R (cx st ρ W2 st.A.length) (.lit ((srtH ks0).map hAV)) x):=by
   have hsame:srtH ks=srtH ks0:=ZdG hperm;have hlen0:=hperm.length_eq
   have hks0:ks0.length<=1000000000:=by
    have h4:=List.length_filterMap_le (ZSE (fun n=>decide (n0<=n))) en.toList
    rw[hsel]at h4;omega
   rcases hown.2 with⟨rfl,hz0⟩|⟨g,cap,cur,rfl,hgb,hgc,hnc,hcm,hcs,htk⟩
   ·have:ks0=[]:=List.eq_nil_of_length_eq_zero (by omega)
    subst this;refine (hSort_nil W').mono ?_
    rintro e' W2 ⟨rfl,rfl⟩
    exact⟨_,rfl,Go.RowKit.Below.refl _ _,by rw[show srtH []=[] by simp[srtH]];exact .lit0 _ _⟩
   ·have hpos : 0 < ks.length := by
     rcases Nat.eq_zero_or_pos ks.length with h0|h0
     ·have:=hnil.2 (List.eq_nil_of_length_eq_zero h0)
      simp at this
     ·exact h0
    refine (hSort ⟨g,0,none⟩ cap ks (hperm.nodup_iff.2 hnd) hpos (by omega) W' (fun j u hj=>hown.cells Y j u hj)).mono ?_
    rintro e' W2 ⟨g2,cap2,rfl,hg2,hc1,hc2,hbel,hH⟩
    refine⟨_,rfl,hbel,?_⟩;rw[<- hsame]
    have hes:((srtH ks).map hAV).length=ks.length:=by rw[List.length_map,ZhQ]
    have:=ZPD (C:=cx st ρ W2 st.A.length) (es:=(srtH ks).map hAV) (xs:=(srtH ks).map encH) (b:=g2) (o:=0) (w:=1) (c:=cap2) (a:=some ⟨g2,0,none⟩) ⟨by simp,fun i v x hv hx=>?_⟩ (fun i x hx=>?_) (by rw[hes];exact hc1) (fun _=>rfl)
    ·rw[hes]at this;exact this
    ·rw[jG,oM]at hv hx
     obtain⟨u,hu,rfl⟩:=hv;obtain⟨u2,hu2,rfl⟩:=hx;rw[hu]at hu2
     have:=Option.some.inj hu2
     subst this;exact .int _ _
    ·rw[jG,oM]at hx
     obtain⟨u,hu,rfl⟩:=hx
     refine⟨rfl,fun j v hv=>?_⟩
     have hj:j=0:=by
      have:=(Array.getElem?_eq_some_iff.1 hv).1
      simpa [encH,Value.cells] using this
     subst hj
     have hv2:v=encH u:=by simpa [encH,Value.cells] using hv.symm
     subst hv2
     have hi:i<(srtH ks).toArray.size:=by simpa using (List.getElem?_eq_some_iff.1 hu).1
     have hcell:=(hH i hi).1
     have hget:(srtH ks).toArray[i]! =u:=by
      rw[getElem!_pos _ i hi]
      have:=(List.getElem?_eq_some_iff.1 hu).2
      simpa using this
     rw[hget]at hcell
     refine⟨by rw[show 0+i*1+0=0+i by omega];exact hcell,?_⟩
     rintro⟨lv',ix',w2,ver',es',hg',h2',h3',h4'⟩
     have hmm:=(hr.arr _ _ _ _ _ hg').mem (0+i*1+0-(ρ lv' ix').o) (by omega)
     obtain⟨y,hy⟩:=Option.isSome_iff_exists.1 hmm.2.1
     have:=ZFA (W:=W) (b:=(ρ lv' ix').b) hy
     have:=h.jk.size
     omega
  refine ZdI (o:=oLe 7 1) (f:=.func 45) Y oLe_7_1.gd oLe_7_1.op Y Y Proofs.Tryz.call45 ?_
  show Go.Calls Proofs.Tryz.prog 45 #[(a1.put (some 22) vo).eval (.tmp 22)] W' _
  rw[hz];refine hc.mono ?_
  rintro e' W2 ⟨x,rfl,hbel,hR⟩
  refine⟨x,rfl,?_⟩;rw[oLe_7_1.dst,wpOpsIn_cons]
  refine Qi oLe_7_2 Y (by simp) (QT (x:=.tmp 23) (.inr oLe_7_2.op)) ?_
  rw[Act.put_look (by simp[Act.put];omega)]
  show Code.wpIn _ _ _ _ _ _ _
  refine wpIn_ret ?_
  have hjk2:Jk W.heap.size W W2:=by
   refine⟨hbel.os.trans h.jk.os,hbel.tape.trans h.jk.tape,hbel.output.trans h.jk.output,Nat.le_trans h.jk.size hbel.size,fun i hi hne=>?_,.inl (Nat.le_refl _)⟩
   rw[hbel.block i (by have:=h.jk.size;omega)]
   exact h.jk.blk i hi hne
  refine hQ _ ρ W2 (hr.jk hjk2 hr.b0) ?_ (by simpa [Act.put] using s1) d1
  intro t
  by_cases ht:t=4
  ·subst ht
   have q:(((a1.put (some 22) vo).put (some 23) x).put (some 4) x).eval (.tmp 4)=x:=Act.put_look (by simp[Act.put];omega)
   have q2:(((a1.put (some 22) vo).put (some 23) x).put (some 4) x).tmps.getD 4 Go.undef=x:=q
   show QAbs.R _ _ ((((a1.put (some 22) vo).put (some 23) x).put (some 4) x).tmps.getD 4 Go.undef)
   rw[q2];exact hR
  ·have q:QAbs.look [((4:Nat),(AV.lit ((srtH ks0).map hAV)))] t=.any:=by simp[QAbs.look,Ne.symm ht]
   show QAbs.R _ (QAbs.look [((4:Nat),(AV.lit ((srtH ks0).map hAV)))] t) _
   rw[q];exact .any _
 ·-- a round
  intro seen a' W' x w1 h hx hw hit hnew hjk;obtain⟨ks,hown,hnil,hperm⟩:=h.out;have hsz':=h.sz;obtain⟨hh,n,hkey,hval⟩:=hall x (ZA0 hx)
  have hperm2:=(ZGE hf hx).filterMap (ZSE (fun n=>decide (n0<=n)))
  rw[List.filterMap_cons,Zfa hkey hval]at hperm2;have hlb:W'.heap.size<=(setBlock w1 W.heap.size (.mapIter (some (ρ lv ix).b) clock (seen.push x.born) clock)).heap.size:=hjk.size;have hbig:=h.big
  generalize hW1:setBlock w1 W.heap.size (.mapIter (some (ρ lv ix).b) clock (seen.push x.born) clock)=W1 at *
  have hown1:=ZZy hjk hown;have jk1:=h.jk.trans (Nat.le_refl _) hjk;clear hW1 hown hw;unfold xLeB;refine wpIn_block (wpIn_seq (wpIn_region ?_))
  show wpOpsIn (fen none) 0 _ #[oLe 4 0,oLe 4 1,oLe 4 2,oLe 4 3,oLe 4 4] _ [0,1,2,3,4] _ W1
  generalize ha1:(a'.put (some 10) (.tuple #[.bool true,x.key,x.val])).put (some 11) (.bool true)=a1
  have s1:a1.tmps.size=a0.tmps.size:=by rw[<- ha1];simpa [Act.put,sza] using hsz'
  have d1:a1.defers=a.defers:=by rw[<- ha1];exact h.df
  have e1:a1.eval (.tmp 9)=.pointer (some ⟨W.heap.size,0,none⟩):=by rw[<- ha1,Act.put_other (by decide),Act.put_other (by decide)];exact h.ev
  have e2:a1.eval (.tmp 5)=a'.eval (.tmp 5):=by rw[<- ha1,Act.put_other (by decide),Act.put_other (by decide)]
  have e5:a1.eval (.tmp 1)=.int .i64 n0:=by rw[<- ha1,Act.put_other (by decide),Act.put_other (by decide)];exact h.n0
  generalize a'.eval (.tmp 5)=vo at *
  clear ha1;rw[wpOpsIn_cons]
  refine Qi oLe_4_0 Y (by simp) (ZI0 (it:=.tmp 9) oLe_4_0.op e1 hnew hit.map hf (ZA0 hx)) ?_
  rw[wpOpsIn_cons]
  refine Qi oLe_4_1 Y (by simp) (ZA1 (t:=.tmp 12) (k:=0) (x:=x.key) oLe_4_1.op (Act.put_look (by omega)) Y) ?_
  rw[wpOpsIn_cons]
  refine Qi oLe_4_2 Y (by simp) (ZA1 (t:=.tmp 12) (k:=1) (x:=x.val) oLe_4_2.op (by rw[Act.put_other (by decide)];exact Act.put_look (by omega)) Y) ?_
  generalize hb:((a1.put (some 12) (.tuple #[x.key,x.val])).put (some 13) x.key).put (some 14) x.val=a2
  have s2:a2.tmps.size=a0.tmps.size:=by rw[<- hb];simpa [Act.put] using s1
  have d2:a2.defers=a.defers:=by rw[<- hb];exact d1
  have f1:a2.eval (.tmp 9)=.pointer (some ⟨W.heap.size,0,none⟩):=by rw[<- hb,Act.put_other (by decide),Act.put_other (by decide),Act.put_other (by decide)];exact e1
  have f2:a2.eval (.tmp 5)=vo:=by rw[<- hb,Act.put_other (by decide),Act.put_other (by decide),Act.put_other (by decide)];exact e2
  have f3:a2.eval (.tmp 13)=x.key:=by rw[<- hb,Act.put_other (by decide)];exact Act.put_look (by simp[Act.put];omega)
  have f4:a2.eval (.tmp 14)=x.val:=by rw[<- hb];exact Act.put_look (by simp[Act.put];omega)
  have f5:a2.eval (.tmp 1)=.int .i64 n0:=by rw[<- hb,Act.put_other (by decide),Act.put_other (by decide),Act.put_other (by decide)];exact e5
  clear hb;rw[wpOpsIn_cons]
  refine Qi oLe_4_3 Y (by simp) (QT (x:=.tmp 13) (.inr oLe_4_3.op)) ?_
  rw[wpOpsIn_cons,f3]
  refine Qi oLe_4_4 Y (by simp) (QT (x:=.tmp 14) (.inr oLe_4_4.op)) ?_
  rw[Act.put_other (by decide),f4]
  show Code.wpIn _ _ _ _ _ _ _
  generalize hb:(a2.put (some 6) x.key).put (some 7) x.val=a3
  have s3:a3.tmps.size=a0.tmps.size:=by rw[<- hb];simpa [Act.put] using s2
  have d3:a3.defers=a.defers:=by rw[<- hb];exact d2
  have g1:a3.eval (.tmp 9)=.pointer (some ⟨W.heap.size,0,none⟩):=by rw[<- hb,Act.put_other (by decide),Act.put_other (by decide)];exact f1
  have g2:a3.eval (.tmp 5)=vo:=by rw[<- hb,Act.put_other (by decide),Act.put_other (by decide)];exact f2
  have g3:a3.eval (.tmp 6)=encH hh:=by rw[<- hb,Act.put_other (by decide),<- hkey];exact Act.put_look (by omega)
  have g4:a3.eval (.tmp 7)=.int .i64 n:=by rw[<- hb,<- hval];exact Act.put_look (by simp[Act.put];omega)
  have g5:a3.eval (.tmp 1)=.int .i64 n0:=by rw[<- hb,Act.put_other (by decide),Act.put_other (by decide)];exact f5
  clear hb;refine wpIn_seq (wpIn_region ?_)
  show wpOpsIn (fen none) 0 _ #[oLe 5 0,oLe 5 1,oLe 5 2] _ [0,1,2] a3 W1
  rw[wpOpsIn_cons]
  refine Qi oLe_5_0 Y (by simp) (QT (x:=.tmp 7) (.inl oLe_5_0.op)) ?_
  rw[wpOpsIn_cons,g4]
  refine Qi oLe_5_1 Y (by simp) (QT (x:=.tmp 1) (.inl oLe_5_1.op)) ?_
  rw[Act.put_other (by decide),g5,wpOpsIn_cons]
  refine Qi oLe_5_2 Y (by simp) (ZhR (x:=.tmp 15) (y:=.tmp 16) (k:=.i64) (m:=n) (n:=n0) (b:=decide (n0<=n)) oLe_5_2.op (by rw[Act.put_other (by decide)];exact Act.put_look (by omega)) (Act.put_look (by simp[Act.put];omega)) rfl) ?_
  show Code.wpIn _ _ _ _ _ _ _
  generalize hb:((a3.put (some 15) (.int .i64 n)).put (some 16) (.int .i64 n0)).put (some 17) (.bool (decide (n0<=n)))=a4
  have s4:a4.tmps.size=a0.tmps.size:=by rw[<- hb];simpa [Act.put] using s3
  have d4:a4.defers=a.defers:=by rw[<- hb];exact d3
  have k1:a4.eval (.tmp 9)=.pointer (some ⟨W.heap.size,0,none⟩):=by rw[<- hb,Act.put_other (by decide),Act.put_other (by decide),Act.put_other (by decide)];exact g1
  have k2:a4.eval (.tmp 5)=vo:=by rw[<- hb,Act.put_other (by decide),Act.put_other (by decide),Act.put_other (by decide)];exact g2
  have k3:a4.eval (.tmp 6)=encH hh:=by rw[<- hb,Act.put_other (by decide),Act.put_other (by decide),Act.put_other (by decide)];exact g3
  have k4:a4.eval (.tmp 17)=.bool (decide (n0<=n)):=by rw[<- hb];exact Act.put_look (by simp[Act.put];omega)
  have k5:a4.eval (.tmp 1)=.int .i64 n0:=by rw[<- hb,Act.put_other (by decide),Act.put_other (by decide),Act.put_other (by decide)];exact g5
  clear hb
  by_cases hp:decide (n0<=n)=true
  ·rw[if_pos hp]at hperm2
   refine wpIn_cond_true (by rw[k4,hp]) (wpIn_region ?_)
   show wpOpsIn (fen none) 0 _ #[oLe 6 0,oLe 6 1,oLe 6 2,oLe 6 3,oLe 6 4] _ [0,1,2,3,4] a4 W1
   rw[wpOpsIn_cons]
   refine Qi oLe_6_0 Y (by simp) (QT (x:=.tmp 5) (.inl oLe_6_0.op)) ?_
   rw[wpOpsIn_cons,k2]
   refine Qi oLe_6_1 Y (by simp) (QT (x:=.tmp 6) (.inl oLe_6_1.op)) ?_
   rw[Act.put_other (by decide),k3,wpOpsIn_cons]
   refine Qi oLe_6_2 Y (by simp) (ZdK (h:=hh) oLe_6_2.op (Act.put_look (by simp[Act.put];omega))) ?_
   have hcnt:ks.length<=1000000000:=by
    have h3:=hperm.length_eq
    have h4:=List.length_filterMap_le (ZSE (fun n=>decide (n0<=n))) en.toList
    rw[lL]at h3;omega
   obtain⟨i0,z,q1,q2,q3,q4,q5⟩:=hinfo;have hown2:=hown1.alloc (.cells #[encH hh] 32)
   have hsz2:(W1.alloc (.cells #[encH hh] 32)).heap.size=W1.heap.size+1:=by simp
   obtain⟨v',W3,hrun,hown3,hgr,hiff⟩:=run_append_own (P:=Proofs.Tryz.prog) (w:=W1.alloc (.cells #[encH hh] 32)) (W.heap.size+1) 37 (oLe 6 3).type 32 i0 z 1 8 (by kernel_rfl) q1 q2 q3 q4 q5 (by decide) vo ks.length (ks.map encH) hown2
    ⟨W1.heap.size,0,none⟩ 1 1 [encH hh] rfl (fun j u hj=>by
     match j,hj with
     | 0,hj =>
      simp only[List.getElem?_cons_zero,oJ]at hj;subst hj
      show (W1.alloc (.cells #[encH hh] 32)).cell? ⟨W1.heap.size,0+0,none⟩=_
      rw[World.cell?_alloc_new];rfl
     | j+1,hj=>simp at hj) (fun u hu=>by simp only[List.mem_singleton]at hu;subst hu;rfl) (by unfold maxLen;omega) (by omega) (by omega)
   rw[wpOpsIn_cons]
   refine Qi oLe_6_3 Y (by simp) (ZdH (v:=vo) (ad:=⟨W1.heap.size,0,none⟩) (m:=1) (c:=1) oLe_6_3.op (by rw[Act.put_other (by decide),Act.put_other (by decide)];exact Act.put_look (by omega)) (Act.put_look (by simp[Act.put];omega)) hrun) ?_
   rw[wpOpsIn_cons]
   refine Qi oLe_6_4 Y (by simp) (QT (x:=.tmp 21) (.inr oLe_6_4.op)) ?_
   rw[Act.put_look (by simp[Act.put];omega)]
   have hblk:∀i,i<=W.heap.size->W3.heap[i]?=W1.heap[i]?:=fun i hi=>by
    rw[hgr.block i (by omega) (fun q=>?_)]
    ·exact Go.RowKit.Below.heap_alloc _ _ _ (by omega)
    ·have:=(hown2.lt i q.symm).1
     omega
   have hsz3:=hgr.size
   refine⟨rfl,⟨by rw[hblk _ (by have:=QR h1;omega)];exact hit.map,clock,Nat.le_refl _,by rw[hblk _ (Nat.le_refl _)];exact hnew⟩,⟨hgr.os.trans jk1.os,hgr.tape.trans jk1.tape,hgr.output.trans jk1.output,by have:=jk1.size;omega,fun i hi hne=>?_,.inl (Nat.le_refl _)⟩,by simpa [Act.put,sza] using s4,d4,?_,by omega,by rw[Act.put_other (by decide),Act.put_other (by decide),Act.put_other (by decide),Act.put_other (by decide),Act.put_other (by decide)];exact k5,ks++[hh],?_,?_,?_⟩
   ·rw[hblk i (by omega)];exact jk1.blk i hi hne
   ·rw[Act.put_other (by decide),Act.put_other (by decide),Act.put_other (by decide),Act.put_other (by decide),Act.put_other (by decide)];exact k1
   ·rw[Act.put_look (by simp[Act.put];omega),lL,List.map_append];exact hown3
   ·rw[Act.put_look (by simp[Act.put];omega),hiff];simp
   ·refine List.Perm.trans ?_ hperm
    rw[List.append_assoc];exact (hperm2.append_left ks).symm
  ·rw[if_neg hp]at hperm2
   refine wpIn_cond_false (by rw[k4];simpa using hp) (wpIn_skip ?_)
   refine⟨rfl,hit,jk1,by rw[s4,sza],d4,k1,by omega,k5,ks,by rw[k2];exact hown1,by rw[k2];exact hnil,?_⟩
   exact (hperm2.append_left ks).symm.trans hperm
 ·refine⟨⟨?_,clock,Nat.le_refl _,?_⟩,hjk0,by simp[Act.put],rfl,Act.put_look (by simp[Act.put];omega),by simp,by rw[Act.put_other (by decide),Act.put_other (by decide)];exact hevn1,[],?_,?_,?_⟩
  ·exact hjk0.heap h1 Y
  ·exact World.alloc_heap_new _ _
  ·rw[Act.put_other (by decide),Act.put_other (by decide),hev10];exact World.ownsRow_nil _ _ _ _
  ·rw[Act.put_other (by decide),Act.put_other (by decide),hev10];simp
  ·rw[ZSB];exact .refl _
end Go.Q15
namespace Go.Q15
open Go Go.QAbs
variable {w:AV}{e:Env}{f g:FuncId}{a z:Int}{A:List (Bool × List Blk)}{args caps:LV}{k:List Fr}{l:List Nat}{s s0:B8}{d i ix la lm mx n o ver:Nat}{v:Opd}{O:Orc}{ro x:Ro}{st:St}{t:Tr}{Q:YD}
def pL1:PC:=.seq (R [0,1] [⟨(some 4),none,false,.mv (.v .nils)⟩]) .skip
def rsL:List RV:=[.s 4]
theorem Zre:toP Proofs.Tryz.prog 24 1 [⟨[0,1],[],[],[],[],[]⟩] cLe=some ((pL1,xLe),[]):=by kernel_rfl
theorem Zq1:FrX Zhj:=FrX.of fun e st r hr=>by
 unfold Zhj at hr ⊢
 split at hr
 case h_2=>simp at hr
 rename_i lv ix n0 h1 h2
 simp only[oB]at hr;obtain⟨es,hes,ks,hks,hr⟩:=hr
 split at hr
 case isFalse=>simp at hr
 rename_i hc
 simp only[oJ]at hr;subst hr
 refine⟨rfl,fun M i B hh=>?_⟩
 have hg:=ZAI hes;simp only[JM hh lv ix _ hg];simp only[ZBi,oS,hks,if_pos hc]
noncomputable def leE:Ent:=.base (fnO (ZOu (S T3) itS Zhj pL1) rsL)
noncomputable def tx:List (FuncId × Ent):=(J4,leE)::tw
noncomputable def TX:Tab:=Y7 tx
theorem Zq2(hT:TabOk Proofs.Tryz.prog T3)(hm:Proofs.Tryz.prog.follows .mixedOrders=true)(hf:Proofs.Tryz.prog.funcs[J4]?=some Proofs.Tryz.f50):ZHf Proofs.Tryz.prog J4 leE:=by
 refine Zm4 (c:=cLe) (O:=S T3) hf (by kernel_rfl) (fun W0 B0 hg=>?_) (ZdJ hm hT Zq1 _) (by kernel_rfl)
 exact ZnA (nt:=Proofs.Tryz.f50.ntmps) hm hT hg 1 cLe _ [] pL1 xLe Zre Zq0
theorem leX:TLe TW TX:=fun g y hg=>X3 (l:=tw) (by decide +kernel) g y hg
theorem upX{r:AV × St}(h:S TW f args st=some r):S TX f args st=some r:=ZOq leX _ _ _ _ h
theorem Zq3{r:AV × St}(h:S Tb f args st=some r):S TX f args st=some r:=upX (upW (upV (up3 h)))
theorem Znj{r:AV × St}(h:S T3 f args st=some r):S TX f args st=some r:=upX (upW (upV h))
theorem Zpn{lv:Nat}{n0:Int}{es:List (AV × AV)}{ks:List H64}(h0:QAbs.look e 0=.map lv ix)(h1:QAbs.look e 1=.int .i64 n0)(hg:st.get lv ix=some (.map es))(hs:ZZx (fun n=>decide (n0<=n)) es=some ks)(hn:ks.Nodup)(hl:es.length<1000000000):
 Zhj e st=some (.ret,[(4,.lit ((srtH ks).map hAV))],st):=by
 unfold Zhj;simp only[h0,h1,hg,ZBi,oS,hs];rw[if_pos ⟨hn,hl⟩]
theorem ZdQ{lv:Nat}{n0:Int}{c:List (Nat × Int)}(hlv:lv<=st.A.length)(hg:st.get lv ix=some (.map (Y0 c)))(hn:(c.map Prod.fst).Nodup)(h6:∀q∈c,q.1<18446744073709551616)(hl:c.length<1000000000):
 S TX J4 [.map lv ix,.int .i64 n0] st=some (.lit ((ZhV (ZJv (fun n=>decide (n0<=n)) c)).map Zt),st):=by
 refine s_pr (X:=Zhj) (pre:=pL1) (rs:=rsL) Y (fun A hA=>?_)
 have hs:=Zfc (fun n=>decide (n0<=n)) c h6
 have hnd:=Zj7 (ZI2 (N:=[]) h6) (ZGF (p:=fun n=>decide (n0<=n)) hn)
 have he:(srtH ((ZJv (fun n=>decide (n0<=n)) c).map toH)).map hAV=(ZhV (ZJv (fun n=>decide (n0<=n)) c)).map Zt:=by rw[Zj6];rfl
 have hl2:(Y0 c).length<1000000000:=by unfold Y0;rw[List.length_map];exact hl
 have g:=ZS hA (ro:=false) (L:=[]) hg;rw[<- he]
 repeat'(first|refine ZE ?_|refine ZD ?_|refine ZG Y ?_|refine ZB Y ?_|refine ZC ?_|refine ZI ?_|refine ZO ?_)
 refine .inr ⟨rfl,_,_,_,Zpn Y Y g hs hnd hl2,?_⟩
 refine Zj hA (by simp) Y Y Y Y ?_
 rfl
def noRo(st:St):St:={ A:=st.A.map fun r=>(false,r.2),ro:=false,L:=st.L }
open Classical in
noncomputable def roO(o:LV->St->OS)(args:LV)(st:St):OS:=(o args (noRo st)).bind fun r=>if r.2=noRo st then some (r.1,st) else none
theorem ZE4(st:St)(lv ix:Nat):(noRo st).get lv ix=st.get lv ix:=by
 unfold noRo St.get;simp only[List.length_map,jG]
 split
 ·rfl
 ·cases st.A[lv]?<;>rfl
theorem ZBO(st:St):(noRo st).A.length=st.A.length:=by simp[noRo]
theorem fillA_noRo{M:Nat}{B:Blk}:noRo (st.fillA M i B)=(noRo st).fillA M i B:=by
 simp only[noRo,St.fillA,St.mk.injEq,and_true]
 apply List.ext_getElem?
 intro k;rw[JL,jG,jG,JL]
 cases st.A[k]? with
 | none=>rfl
 | some r=>simp only[Option.map_some];split<;>rfl
theorem Zhk{M:Nat}(h:HoleIn st.A M i):HoleIn (noRo st).A M i:=by
 obtain⟨r,j,h1,h2⟩:=h
 exact⟨(false,r.2),j,by simp[noRo,h1],h2⟩
theorem Zq4{P:Program}{T:Tab}(hm:P.follows .mixedOrders=true)(hT:TabOk P T):ZHf P f (.base (roO (S T f))):=by
 refine⟨fun args st r hr=>?_,?_⟩
 ·simp only[roO,oB]at hr
  obtain⟨q,hq,hr⟩:=hr
  split at hr
  case isFalse=>simp at hr
  rename_i he
  simp only[oJ]at hr;subst hr
  refine⟨rfl,fun M i B hh=>?_⟩
  obtain⟨n,hn⟩:=S_iff.1 hq
  obtain⟨k1,k2⟩:=(Xe hm (K:=fun _ _=>True) hT.y n).frame f args (noRo st) q hn
  have k3:=Zja T n _ _ _ _ (k2 M i B (Zhk hh));simp only[roO,fillA_noRo,k3,oS];rw[he,if_pos fillA_noRo.symm]
 ·intro args st v st' h W0 B0 ρ W xs hg hr hx
  simp only[roO,oB]at h;obtain⟨⟨v1,st1⟩,hq,h⟩:=h
  split at h
  case isFalse=>simp at h
  rename_i he
  simp only at he
  subst he;simp only[oJ,jP]at h;obtain⟨rfl,rfl⟩:=h
  have hs:QAbs.Sub st.A.length st (noRo st):=by rw[<- ZBO st];exact Sub.same (ZE4 st)
  have hs':QAbs.Sub (noRo st).A.length (noRo st) st:=by rw[ZBO st];exact Sub.same fun lv ix=>(ZE4 st lv ix).symm
  refine (ZjZ hm hT hq hg (hs.rel hr) (by rw[ZBO];exact hx.mono (hs.cx (Nat.le_refl _)))).mono ?_
  rintro e' W' ⟨x,ρ',rfl,g,hR⟩
  refine⟨x,ρ',rfl,⟨hs'.rel g.rel,rfl,fun m hm2=>?_,fun lv r h=>⟨r,h,rfl,fun _=>rfl⟩,rfl,fun _=>rfl,g.ev.yl⟩,?_⟩
  ·exact (hs.cx hm2).trans ((g.ev.le m (by rw[ZBO];exact hm2)).trans (hs'.cx (by rw[ZBO];exact hm2)))
  ·rw[ZBO]at hR
   exact hR.mono (hs'.cx (by rw[ZBO];exact Nat.le_refl _))
theorem Zq5{T:Tab}{v:AV}(h:S T f args (noRo st)=some (v,noRo st)):roO (S T f) args st=some (v,st):=by
 simp only[roO,h,oS,if_pos]
def X4(N:ZJ)(rs:List Ro):List (Nat × Int):=rs.foldl (fun c r=>Ju c (Z6 (Zm N r))) []
theorem ZlK(N:ZJ)(rs:List Ro)(r:Ro):X4 N (rs++[r])=Ju (X4 N rs) (Z6 (Zm N r)):=by simp[X4]
def ZDN(rs:List Ro):List Blk:=rs.map fun r=>.arr 5 0 [r.av]
theorem ZdR(rs:List Ro)(r:Ro):ZDN (rs++[r])=ZDN rs++[.arr 5 0 [r.av]]:=by simp[ZDN]
theorem ZZ8(N:ZJ):∀(rs:List Ro) (c:List (Nat × Int)),(c.map Prod.fst).Nodup->((rs.foldl (fun c r=>Ju c (Z6 (Zm N r))) c).map Prod.fst).Nodup
 | [],c,h=>h
 | r::rs,c,h=>ZZ8 N rs _ (XS _ c h).1
theorem ZZ9(N:ZJ)(o:Nat):∀(rs:List Ro) (c:List (Nat × Int)),Q1 o (rs.foldl (fun c r=>Ju c (Z6 (Zm N r))) c)=Q1 o c+((rs.filter fun r=>decide (o∈Z6 (Zm N r))).length:Int)
 | [],c=>by simp
 | r::rs,c=>by
  rw[List.foldl_cons,ZZ9 N o rs,ZAG,ZD5 (YF _),List.filter_cons]
  by_cases h:o∈Z6 (Zm N r)
  ·simp[h];omega
  ·simp[h]
theorem ZO1(N:ZJ)(o:Nat):∀(rs:List Ro) (c:List (Nat × Int)),(c.map Prod.fst).Nodup->(o∈(rs.foldl (fun c r=>Ju c (Z6 (Zm N r))) c).map Prod.fst↔o∈c.map Prod.fst\/∃r∈rs,o∈Z6 (Zm N r))
 | [],c,_=>by simp
 | r::rs,c,h=>by
  rw[List.foldl_cons,ZO1 N o rs _ (XS _ c h).1,(XS _ c h).2];simp only[List.mem_cons,exists_eq_or_imp]
  constructor
  ·rintro ((q|q)|q)
   ·exact .inl q
   ·exact .inr (.inl q)
   ·exact .inr (.inr q)
  ·rintro (q|q|q)
   ·exact .inl (.inl q)
   ·exact .inl (.inr q)
   ·exact .inr q
section
variable {O:Orc}{k:List Fr}{Q:YD}{e:Env}{A:List (Bool × List Blk)}{X Y':List Blk}{keep:List Nat}{is:List QAbs.PI}
theorem ZlL{L:List Blk}(h:Is O is keep k Q ((d,.map A.length L.length)::e) ⟨A,false,L++[Blk.map []]⟩):Is O (⟨some d,none,false,.mkmap⟩::is) keep k Q e ⟨A,false,L⟩:=by
 exact Z3 (v:=.map A.length L.length) (st':=⟨A,false,L++[Blk.map []]⟩) (by simp only[Zg,evalPO,oS,St.new_cur,ZI3]) h
theorem ZjB{kk:Nat}{x i:Opd}{ki:AV}{es es':List (AV × AV)}(hi0:ix=X.length)
 (hx:Zc e x=some (.map A.length ix)) (hi:Zc e i=some ki) (hki:YG kk ki=true) (hv:Zc e v=some w) (hs:ZY QD (A.length+1) ⟨A,false,X++(.map es::Y')⟩ w=some (w,⟨A,false,X++(.map es::Y')⟩)) (hp:ZBh ki w es=some es')
 (h:Is O is keep k Q e ⟨A,false,X++(.map es'::Y')⟩):Is O (⟨none,none,false,.mupd kk x i v⟩::is) keep k Q e ⟨A,false,X++(.map es::Y')⟩:=by
 subst hi0
 refine ZSD (ix:=X.length) hx hi hki hv hs (by rw[List.getElem?_append_right (Nat.le_refl _),Nat.sub_self];rfl) hp ?_
 rw[List.set_append_right _ _ (Nat.le_refl _),Nat.sub_self];exact h
end
theorem ZSH{L:List Blk}{b:Nat}{N:ZJ}(hN:GoodN N)(hR:∀L,Rd ⟨A,false,L⟩ la (b+5) N){rs:List Ro}(hrs:∀r∈rs,RtOk N r)(hl:rs.length<=100):
 S T3 YS [.ptr la (b+5) 0 0 0,.lit (rs.map Ro.av)] ⟨A,false,L⟩=some (.tup [.map A.length (L++ZDN rs).length,.int .i64 0],
  ⟨A,false,(L++ZDN rs)++(.map (Y0 (X4 N rs))::ZDN rs)⟩):=by
 refine Xv Y ?_
 have p1:∀r:Ro,JU r.av true 0 5=some r.av:=fun r=>rfl
 repeat'(first|refine YH Y ?_|refine ZE ?_|refine ZD ?_|refine ZG Y ?_|refine ZB Y ?_|refine ZC ?_|refine ZH Y ?_|refine JN Y Y Y Y ?_|refine ZI ?_|refine ZL ?_)
 all_goals try first|contradiction|omega
 refine Zy (α:=Nat) (fun i=>[(0,.ptr la (b+5) 0 0 0),(1,.lit (rs.map Ro.av)),(18,.lit (rs.map Ro.av)),(19,.int .i64 rs.length),(20,.int .i64 i)]) (fun i=>⟨A,false,L++ZDN (rs.take i)⟩) (fun i=>i<=rs.length) (fun i=>rs.length-i) 0 Y (by simp[ZDN]) (by omega) ?_
 intro i hi
 rcases Nat.lt_or_ge i rs.length with hlt|hge
 ·obtain⟨r,hr⟩:∃r,rs[i]?=some r:=⟨rs[i]'hlt,jE _⟩
  have q:0<=((i:Nat):Int)/\rs[((i:Nat):Int).toNat]?=some r:=⟨by omega,by rw[show ((i:Nat):Int).toNat=i by omega];exact hr⟩
  have hC:=fun L=>Zqg (ZVo hN (hR L) (hrs r (jM hr)))
  have ht:rs.take (i+1)=rs.take i++[r]:=ZZ hr
  repeat'(first|refine QX (f:=Ro.av) Y Y q (fun _=>rfl) ?_|refine QA Y (p1 _) ?_|refine ZE ?_|refine ZD ?_|refine ZG Y ?_|refine ZB Y ?_|refine ZC ?_|refine Qv Y Y Y ?_|(refine cm0 Y Y Y ?_ ?_<;>intro _<;>try omega)|refine ZQ Y ?_|refine ZH Y ?_|refine Zh Y Y (by omega) ?_|refine Z1 Y Y Y ?_|refine YQ Y Y Y Y Y Y ?_|refine ZA Y Y Y (hC _) ?_|refine ZI ?_|refine ZL ?_|refine Z0 ?_|refine Z8 ?_)
  all_goals try first|contradiction|omega
  all_goals refine⟨i+1,⟨rfl,?_⟩,by omega,by omega⟩
  all_goals (rw[ht,ZdR,<- List.append_assoc];rfl)
 obtain rfl:i=rs.length:=by omega
 rw[List.take_length];obtain⟨X,hX⟩:∃X,X=L++ZDN rs:=⟨_,rfl⟩;rw[<- hX]
 repeat'(first|refine ZlL ?_|refine YH Y ?_|refine ZE ?_|refine ZD ?_|refine ZG Y ?_|refine ZB Y ?_|refine ZC ?_|(refine cm0 Y Y Y ?_ ?_<;>intro _<;>try omega)|refine ZH Y ?_|refine Zq ?_|refine ZL ?_|refine Zb ?_|refine Za Y ?_|refine Zn ?_)
 all_goals try first|contradiction|omega
 refine Zy (α:=Nat) (fun i=>[(0,.ptr la (b+5) 0 0 0),(9,.map A.length X.length),(32,.lit (rs.map Ro.av)),(33,.int .i64 rs.length),(34,.int .i64 i)]) (fun i=>⟨A,false,X++(.map (Y0 (X4 N (rs.take i)))::ZDN (rs.take i))⟩) (fun i=>i<=rs.length) (fun i=>rs.length-i) 0 Y Y (by omega) ?_
 intro i hi
 rcases Nat.lt_or_ge i rs.length with hlt|hge
 ·obtain⟨r,hr⟩:∃r,rs[i]?=some r:=⟨rs[i]'hlt,jE _⟩
  have q:0<=((i:Nat):Int)/\rs[((i:Nat):Int).toNat]?=some r:=⟨by omega,by rw[show ((i:Nat):Int).toNat=i by omega];exact hr⟩
  have hro:=hrs r (jM hr)
  have hNd:=fun L=>ZOr hN (hR L) hro
  have ht:rs.take (i+1)=rs.take i++[r]:=ZZ hr;have ln:=Xz hN hro
  have ln2:(Z6 (Zm N r)).length<=1000000000:=by have:=(Ym (Zm N r)).2.2;omega
  have hsn:=ZlK N (rs.take i) r
  have hnn:∀o,0<=Q1 o (X4 N (rs.take i))/\Q1 o (X4 N (rs.take i))<=100:=fun o=>by
   have h1:=ZZ9 N o (rs.take i) []
   have h2:=List.length_filter_le (fun r=>decide (o∈Z6 (Zm N r))) (rs.take i)
   rw[List.length_take]at h2;unfold X4;rw[h1];simp only[Q1];omega
  generalize X4 N (rs.take i)=c0 at *
  generalize Z6 (Zm N r)=v at *
  have hbx:X++(.map (Y0 c0)::ZDN (rs.take i))++[.arr 5 0 [r.av]]=X++(.map (Y0 c0)::ZDN (rs.take (i+1))):=by rw[ht,ZdR];simp
  repeat'(first|refine QX (f:=Ro.av) Y Y q (fun _=>rfl) ?_|refine QA Y (p1 _) ?_|refine YH Y ?_|refine ZE ?_|refine ZD ?_|refine ZG Y ?_|refine Zw Y Y ?_|refine ZB Y ?_|refine ZC ?_|refine Qv Y Y Y ?_|(refine cm0 Y Y Y ?_ ?_<;>intro _<;>try omega)|refine ZQ Y ?_|refine ZH Y ?_|refine Z1 Y Y Y ?_|refine YQ Y Y Y Y Y Y ?_|refine ZA Y Y Y (hNd _) ?_|refine ZI ?_|refine ZL ?_)
  all_goals try first|contradiction|omega
  change Ru _ _ _ _ _ ⟨A,false,X++(.map (Y0 c0)::ZDN (rs.take i))++[.arr 5 0 [r.av]]⟩
  rw[hbx]
  refine Zy (α:=Nat) (fun j=>[(0,.ptr la (b+5) 0 0 0),(9,.map A.length X.length),(32,.lit (rs.map Ro.av)),(33,.int .i64 rs.length),(34,.int .i64 i),(47,.lit (v.map Zt)),(48,.int .i64 v.length),(49,.int .i64 j)]) (fun j=>⟨A,false,X++(.map (Y0 (Ju c0 (v.take j)))::ZDN (rs.take (i+1)))⟩) (fun j=>j<=v.length) (fun j=>v.length-j) 0 Y Y (by omega) ?_
  intro j hj
  rcases Nat.lt_or_ge j v.length with hjl|hjg
  ·obtain⟨h,hh⟩:∃k,v[j]?=some k:=⟨v[j]'hjl,jE _⟩
   have qk:0<=((j:Nat):Int)/\v[((j:Nat):Int).toNat]?=some h:=⟨by omega,by rw[show ((j:Nat):Int).toNat=j by omega];exact hh⟩
   have ht2:v.take (j+1)=v.take j++[h]:=ZZ hh
   have hg0:0<=Q1 h (Ju c0 (v.take j))/\Q1 h (Ju c0 (v.take j))<=2000000000:=by
    have h1:=ZAG h (v.take j) c0;have h2:=List.count_le_length (a:=h) (l:=v.take j)
    have h3:(v.take j).length<=v.length:=by rw[List.length_take];omega
    have h4:=hnn h;omega
   have hc:Ju c0 (v.take (j+1))=ZBL h (Ju c0 (v.take j)):=by rw[ht2,ZSC]
   generalize Ju c0 (v.take j)=c at *
   have hlk:lookV ⟨A,false,X++(.map (Y0 c)::ZDN (rs.take (i+1)))⟩ 0 (.int .i64 0) false (.int .u64 h) (.map A.length X.length)=some (.int .i64 (Q1 h c)):=ZVq (by simp only[St.get,if_true];rw[List.getElem?_append_right (Nat.le_refl _),Nat.sub_self];rfl) h
   have hput:=ZVp h c
   generalize Q1 h c=n at *
   repeat'(first|refine QX (f:=Zt) Y Y qk (fun _=>rfl) ?_|refine Jz Y Y hlk ?_|refine ZjB Y Y Y Y Y Y hput ?_|refine ZE ?_|refine ZD ?_|refine ZG Y ?_|refine ZB Y ?_|refine ZC ?_|refine QA Y Y ?_|(refine cm0 Y Y Y ?_ ?_<;>intro _<;>try omega)|refine ZQ Y ?_|refine Zh Y Y (by omega) ?_|refine ZI ?_|refine ZL ?_|refine Z0 ?_|refine Z8 ?_)
   all_goals try omega
   refine⟨j+1,⟨rfl,?_⟩,by omega,by omega⟩
   rw[hc]
  ·obtain rfl:j=v.length:=by omega
   rw[List.take_length]
   repeat'(first|refine ZE ?_|refine ZD ?_|refine ZG Y ?_|refine ZB Y ?_|refine ZC ?_|(refine cm0 Y Y Y ?_ ?_<;>intro _<;>try omega)|refine ZH Y ?_|refine Zh Y Y (by omega) ?_|refine Zq ?_|refine Zb ?_|refine Z0 ?_|refine Za Y ?_|refine Z8 ?_|refine Zn ?_)
   all_goals try omega
   refine⟨i+1,⟨rfl,?_⟩,by omega,by omega⟩
   rw[ht,hsn,<- ht]
 ·obtain rfl:i=rs.length:=by omega
  rw[List.take_length]
  repeat'(first|refine ZE ?_|refine ZD ?_|refine ZG Y ?_|refine ZB Y ?_|refine ZC ?_|(refine cm0 Y Y Y ?_ ?_<;>intro _<;>try omega)|refine ZH Y ?_|refine ZP ?_|refine Zq ?_|refine ZO ?_|refine Zb ?_|refine Za Y ?_|refine Zn ?_)
  all_goals try omega
  exact (J9 (.inr Y) Y Y Y Y).trans Y
def atL(N:ZJ)(n:Int)(rs:List Ro):List Nat:=ZhV (ZJv (fun m=>decide (n<=m)) (X4 N rs))
theorem ZO2(N:ZJ)(rs:List Ro):((X4 N rs).map Prod.fst).Nodup:=ZZ8 N rs [] (by simp)
theorem ZO3{N:ZJ}(hN:GoodN N)(h6:ZO0 N){rs:List Ro}(hrs:∀r∈rs,RtOk N r):∀q∈X4 N rs,q.1<18446744073709551616:=fun q hq=>by
 have:=(ZO1 N q.1 rs [] (by simp)).1 (List.mem_map.2 ⟨q,hq,rfl⟩)
 rcases this with h|⟨r,hr,h⟩
 ·simp at h
 ·exact ZZ7 hN h6 (hrs r hr) h
theorem Zhl{N:ZJ}(hN:GoodN N)(hK:∀l,Lv N l->l.length<=16384){rs:List Ro}(hrs:∀r∈rs,RtOk N r):(X4 N rs).length<=16384:=by
 have h1:=hK ((X4 N rs).map Prod.fst) ⟨ZO2 N rs,fun o ho=>by
  rcases (ZO1 N o rs [] (by simp)).1 ho with h|⟨r,hr,h⟩
  ·simp at h
  ·obtain⟨y,hy⟩:=ZCC hN (hrs r hr) o (onceV_mem.1 h)
   rw[hy];simp⟩
 rwa [List.length_map]at h1
theorem Zrf{b:Nat}{N:ZJ}(hN:GoodN N)(h6:ZO0 N)(hK:∀l,Lv N l->l.length<=16384)(hR:Rd st la (b+5) N){rs:List Ro}(hrs:∀r∈rs,RtOk N r)(hl:rs.length<=100):
 S TX XA [.ptr la (b+5) 0 0 0,.lit (rs.map Ro.av)] st=some (.tup [.lit ((atL N 1 rs).map Zt),.int .i64 0],st):=by
 refine QN (leX XA (.pf ZAC) (leW XA (.pf ZAC) (leV XA (.pf ZAC) (le3 XA (.pf ZAC) Y)))) (fun A hA=>?_)
 have hC:=Znj (ZSH (A:=A) (L:=[]) hN (fun L=>hR.push hA (ro:=false) (L:=L)) hrs hl)
 have hg:St.get ⟨A,false,([]++ZDN rs)++(.map (Y0 (X4 N rs))::ZDN rs)⟩ A.length (([]++ZDN rs):List Blk).length=some (.map (Y0 (X4 N rs))):=by
  simp only[St.get,if_true];rw[List.getElem?_append_right (Nat.le_refl _),Nat.sub_self];rfl
 have hL:=ZdQ (n0:=1) (Nat.le_refl _) hg (ZO2 N rs) (ZO3 hN h6 hrs) (by have:=Zhl hN hK hrs;omega)
 change _=some (AV.lit ((atL N 1 rs).map Zt),_) at hL
 generalize X4 N rs=c at *
 generalize ([]++ZDN rs:List Blk)=X at *
 repeat'(first|refine ZE ?_|refine ZD ?_|refine ZG Y ?_|refine Zw Y Y ?_|refine ZB Y ?_|refine ZC ?_|(refine cm0 Y Y Y ?_ ?_<;>intro _<;>try omega)|refine ZH Y ?_|refine ZA Y Y Y (hC) ?_|refine ZA Y Y Y (hL) ?_|refine ZI ?_|refine ZP ?_|refine ZO ?_)
 all_goals try contradiction
 all_goals refine Zj hA (by simp) Y Y Y Y ?_
 all_goals rfl
theorem ZdS{b:Nat}{N:ZJ}(hN:GoodN N)(h6:ZO0 N)(hK:∀l,Lv N l->l.length<=16384)(hR:Rd st la (b+5) N){rs:List Ro}(hrs:∀r∈rs,RtOk N r)(hl:rs.length<=100):
 S TX JB [.ptr la (b+5) 0 0 0,.lit (rs.map Ro.av)] st=some (.tup [.lit ((atL N 2 rs).map Zt),.int .i64 0],st):=by
 refine QN (leX JB (.pf YY) (leW JB (.pf YY) (leV JB (.pf YY) (le3 JB (.pf YY) Y)))) (fun A hA=>?_)
 have hC:=Znj (ZSH (A:=A) (L:=[]) hN (fun L=>hR.push hA (ro:=false) (L:=L)) hrs hl)
 have hg:St.get ⟨A,false,([]++ZDN rs)++(.map (Y0 (X4 N rs))::ZDN rs)⟩ A.length (([]++ZDN rs):List Blk).length=some (.map (Y0 (X4 N rs))):=by
  simp only[St.get,if_true];rw[List.getElem?_append_right (Nat.le_refl _),Nat.sub_self];rfl
 have hL:=ZdQ (n0:=2) (Nat.le_refl _) hg (ZO2 N rs) (ZO3 hN h6 hrs) (by have:=Zhl hN hK hrs;omega)
 change _=some (AV.lit ((atL N 2 rs).map Zt),_) at hL
 generalize X4 N rs=c at *
 generalize ([]++ZDN rs:List Blk)=X at *
 repeat'(first|refine ZE ?_|refine ZD ?_|refine ZG Y ?_|refine Zw Y Y ?_|refine ZB Y ?_|refine ZC ?_|(refine cm0 Y Y Y ?_ ?_<;>intro _<;>try omega)|refine ZH Y ?_|refine ZA Y Y Y (hC) ?_|refine ZA Y Y Y (hL) ?_|refine ZI ?_|refine ZP ?_|refine ZO ?_)
 all_goals try contradiction
 all_goals refine Zj hA (by simp) Y Y Y Y ?_
 all_goals rfl
def ZjC(N:ZJ)(x y:Ro):List Nat:=(Z6 (Zm N x)).filter fun o=>decide (Q1 o (X4 N [x,y])=1)
theorem Zhm{b:Nat}{N:ZJ}(hN:GoodN N)(hR:Rd st la (b+5) N){y:Ro}(hx:RtOk N x)(hy:RtOk N y):
 S TX Jg [.ptr la (b+5) 0 0 0,x.av,y.av] st=some (.tup [.lit ((ZjC N x y).map Zt),.int .i64 0],st):=by
 refine QN (leX Jg (.pf J7) (leW Jg (.pf J7) (leV Jg (.pf J7) (le3 Jg (.pf J7) Y)))) (fun A hA=>?_)
 have hC:=Znj (ZSH (A:=A) (L:=[.arr 5 0 [x.av],.arr 5 0 [y.av]]) hN (fun L=>hR.push hA (ro:=false) (L:=L)) (rs:=[x,y]) (by simp;exact⟨hx,hy⟩) (by simp))
 have hNd:=fun L=>Znj (ZOr hN (hR.push hA (ro:=false) (L:=L)) hx)
 have hln:=Xz hN hx
 have hl2:(Z6 (Zm N x)).length<=1000000000:=by have:=(Ym (Zm N x)).2.2;omega
 unfold ZjC
 change S TX YS [_,.lit [x.av,y.av]] _=some (.tup [.map A.length 4,_],⟨A,false,[.arr 5 0 [x.av],.arr 5 0 [y.av],.arr 5 0 [x.av],.arr 5 0 [y.av],.map (Y0 (X4 N [x,y])),.arr 5 0 [x.av],.arr 5 0 [y.av]]⟩) at hC
 generalize X4 N [x,y]=c at *
 generalize Z6 (Zm N x)=v at *
 unfold Ro.av at *
 repeat'(first|refine YH Y ?_|refine ZE ?_|refine ZD ?_|refine ZG Y ?_|refine ZU Y Y Y Y ?_|refine Zw Y Y ?_|refine ZB Y ?_|refine ZC ?_|(refine cm0 Y Y Y ?_ ?_<;>intro _<;>try omega)|refine ZH Y ?_|refine Zi Y Y Y ?_|refine QM Y Y Y Y ?_|refine ZAK Y ?_|refine ZA Y Y Y (hC) ?_|refine ZA Y Y Y (hNd _) ?_|refine ZI ?_|refine ZL ?_)
 all_goals try first|contradiction|omega
 refine Zy (α:=Nat) (fun i=>[(8,.map A.length 4),(11,.ref A.length 7 ((v.take i).filter fun o=>decide (Q1 o c=1)).length 0 ((v.take i).filter fun o=>decide (Q1 o c=1)).length),(34,.lit (v.map Zt)),(35,.int .i64 v.length),(36,.int .i64 i)])
  (fun i=>⟨A,false,[.arr 5 0 [x.av],.arr 5 0 [y.av],.arr 5 0 [x.av],.arr 5 0 [y.av],.map (Y0 c),.arr 5 0 [x.av],.arr 5 0 [y.av],.arr 1 ((v.take i).filter fun o=>decide (Q1 o c=1)).length (((v.take i).filter fun o=>decide (Q1 o c=1)).map Zt)]⟩) (fun i=>i<=v.length) (fun i=>v.length-i) 0 rfl rfl (by omega) ?_
 intro i hi;unfold Ro.av
 rcases Nat.lt_or_ge i v.length with hlt|hge
 ·obtain⟨h,hh⟩:∃k,v[i]?=some k:=⟨v[i]'hlt,jE _⟩
  have qk:0<=((i:Nat):Int)/\v[((i:Nat):Int).toNat]?=some h:=⟨by omega,by rw[show ((i:Nat):Int).toNat=i by omega];exact hh⟩
  have ht:v.take (i+1)=v.take i++[h]:=ZZ hh
  have hf:(v.take (i+1)).filter (fun o=>decide (Q1 o c=1))=(v.take i).filter (fun o=>decide (Q1 o c=1))++if Q1 h c=1 then [h] else []:=by
   rw[ht,List.filter_append]
   congr 1
   by_cases q:Q1 h c=1<;>simp[q]
  have hfl:((v.take i).filter fun o=>decide (Q1 o c=1)).length<=v.length:=by
   have h1:=List.length_filter_le (fun o=>decide (Q1 o c=1)) (v.take i)
   rw[List.length_take]at h1;omega
  have hlk:∀b,lookV ⟨A,false,[.arr 5 0 [x.av],.arr 5 0 [y.av],.arr 5 0 [x.av],.arr 5 0 [y.av],.map (Y0 c),.arr 5 0 [x.av],.arr 5 0 [y.av],b]⟩ 0 (.int .i64 0) false (.int .u64 h) (.map A.length 4)=some (.int .i64 (Q1 h c)):=fun b=>ZVq (by simp only[St.get,if_true];rfl) h
  generalize (v.take i).filter (fun o=>decide (Q1 o c=1))=w at *
  have hwl:w.length=(w.map Zt).length:=by simp
  have hws:(w.map Zt).length+[Zt h].length<4294967296:=by simp only[List.length_map,List.length_singleton];omega
  unfold Ro.av at hlk
  by_cases q:Q1 h c=1
  ·rw[if_pos q]at hf
   generalize Q1 h c=n at *
   repeat'(first|refine QX (f:=Zt) Y Y qk (fun _=>rfl) ?_|refine Jz Y Y (hlk _) ?_|refine ZAa Y Y Y hwl Y Y hws (by decide) ?_|refine ZE ?_|refine ZD ?_|refine ZG Y ?_|refine ZB Y ?_|refine ZC ?_|refine QA Y Y ?_|(refine cm0 Y Y Y ?_ ?_<;>intro _<;>try omega)|refine ZQ Y ?_|refine Zh Y Y (by omega) ?_|refine QM Y Y Y Y ?_|refine ZI ?_|refine ZL ?_|refine Z0 ?_|refine Z8 ?_)
   all_goals try first|contradiction|omega
   refine⟨i+1,⟨?_,?_⟩,by omega,by omega⟩
   ·rw[hf,lL];rfl
   ·rw[hf,lL,List.map_append];rfl
  ·rw[if_neg q,lN]at hf
   generalize Q1 h c=n at *
   repeat'(first|refine QX (f:=Zt) Y Y qk (fun _=>rfl) ?_|refine Jz Y Y (hlk _) ?_|refine ZE ?_|refine ZD ?_|refine ZG Y ?_|refine ZB Y ?_|refine ZC ?_|refine QA Y Y ?_|(refine cm0 Y Y Y ?_ ?_<;>intro _<;>try omega)|refine ZQ Y ?_|refine ZH Y ?_|refine Zh Y Y (by omega) ?_|refine ZI ?_|refine ZL ?_|refine Z0 ?_|refine Z8 ?_)
   all_goals try first|contradiction|omega
   refine⟨i+1,⟨?_,?_⟩,by omega,by omega⟩
   ·rw[hf];rfl
   ·rw[hf]
 ·obtain rfl:i=v.length:=by omega
  rw[List.take_length]
  generalize v.filter (fun o=>decide (Q1 o c=1))=w at *
  repeat'(first|refine ZE ?_|refine ZD ?_|refine ZG Y ?_|refine ZB Y ?_|refine ZC ?_|(refine cm0 Y Y Y ?_ ?_<;>intro _<;>try omega)|refine ZH Y ?_|refine ZP ?_|refine Zq ?_|refine ZO ?_|refine Zb ?_|refine Za Y ?_|refine Zn ?_)
  all_goals try omega
  exact ZEU hA (.inr Y) Y Y (by simp) (fun v hv=>by obtain⟨z,_,rfl⟩:=List.mem_map.1 hv;rfl) rfl rfl
end Go.Q15
namespace Go.QAbs
variable {w:AV}{e:Env}{f g:FuncId}{a z:Int}{A:List (Bool × List Blk)}{args caps:LV}{k:List Fr}{l:List Nat}{s s0:B8}{d i ix la lm mx n o ver:Nat}{v:Opd}{O:Orc}{st:St}{Q:YD}
section
variable {O:Orc}{k:List Fr}{Q:YD}{e:Env}{A A0:List (Bool × List Blk)}{L L0 T:List Blk}{keep:List Nat}{is:List PI}{d:Nat}{ks:List (Nat × Nat)}{b0 bs:List Blk}
end
end Go.QAbs
namespace Go.Q15
open Go Go.QAbs
variable {w:AV}{e:Env}{f g:FuncId}{a z:Int}{A:List (Bool × List Blk)}{args caps:LV}{k:List Fr}{l:List Nat}{s s0:B8}{d i ix la lm mx n o ver:Nat}{v:Opd}{O:Orc}{ro x:Ro}{st:St}{t:Tr}{Q:YD}
end Go.Q15
